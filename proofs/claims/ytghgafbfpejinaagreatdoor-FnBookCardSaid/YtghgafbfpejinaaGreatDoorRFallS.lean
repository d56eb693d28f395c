/- A book behind a fall: the reference. -/
import Derived.Test.YtghgafbfpejinaaGreatDoorRFallI
namespace Go.Proofs.YtghgafbfpejinaaGreatDoor
open Go Go.RowKit

theorem readHome_falls (s : ByteArray) (hs : s.size ≤ 2000000) {q : Int} {L : List EntD} {ok : Bool} (h : homeP s = ((q, L), ok)) (w : World) :
  Calls Tryz.prog 52 #[.string s] w fun e w' => ∃ v, e = .returned (.tuple #[.int .i64 q, v, .bool ok]) ∧ w'.ownsRow w.heap.size 66 4 v L.length (ES L) ∧ Below w.heap.size w w' :=
 (readHome_spec s hs w).mono fun _ _ ⟨⟨v, he, ho⟩, hb⟩ => by rw [h] at he ho; exact ⟨v, he, ho, hb⟩
theorem readOp_falls (s : ByteArray) (hs : s.size ≤ 2000000) {k : Int} {t : ByteArray} {i : Int} {ok : Bool} (h : opP s = ((k, t, i), ok)) (w : World) :
  Calls Tryz.prog 54 #[.string s] w fun e w' => e = .returned (.tuple #[.agg #[.int .i64 k, .string t, .int .i64 i], .bool ok]) ∧ Below w.heap.size w w' :=
 (readOp_spec s hs w).mono fun _ _ hp => by rw [h] at hp; exact hp
theorem opDo_falls (v : Value) (ds : List EntD) (hz : ∀ e ∈ ds, e.s.size ≤ 2000000) (hn : ds.length ≤ 1000000) (k : Int) (s : ByteArray) (hs : s.size ≤ 2000000) (i : Int) {L : List EntD} {b : Bool} (h : doP ds k s i = (L, b)) {base : Nat} (w : World) (ho : w.ownsRow base 66 4 v ds.length (ES ds)) :
  Calls Tryz.prog 15 #[v, .agg #[.int .i64 k, .string s, .int .i64 i]] w fun e w' => ∃ v', e = .returned (.tuple #[v', .bool b]) ∧ w'.ownsRow w.heap.size 66 4 v' L.length (ES L) ∧ Below w.heap.size w w' := by
 obtain ⟨A, c, rfl, _, _, hr⟩ := own_vals ho
 refine (opDo_spec0 A ds.length c ds hz (by omega) k s hs i w hr).mono fun e w' ⟨⟨L', b', v', n, hP, hl, he, ho'⟩, hb⟩ => ?_
 rw [h] at hP
 injection hP with h1 h2
 subst h1 h2 hl
 exact ⟨v', he, ho', hb⟩

set_option maxRecDepth 100000 in
set_option maxHeartbeats 16000000 in
theorem fall_spec0 (v : Value) (B : BookD) (sm : szBk B ≤ 1048576) (mk : Int) (hmk : mk ≤ 9223372036854775807) (w : World) (h : IsBook w v B) :
  Calls Tryz.prog 21 #[v, .int .i64 mk] w fun e w' => FlPost w (fallP B mk) e w' ∧ Below w.heap.size w w' := by
 obtain ⟨A1, c1, A2, c2, A3, c3, A4, c4, rfl, h⟩ := h
 have H := Lib.hid h
 clear h
 obtain ⟨W1, hW1⟩ : ∃ W, (w.alloc (.cells #[.slice A1 B.rg.length c1, .slice A2 B.hm.length c2, .slice A3 B.pd.length c3, .slice A4 B.dr.length c4, .int .i64 B.sq, .int .i64 B.bs, .int .i64 B.sf, .int .i64 B.at_, .int .i64 B.df] 28)).alloc (.cells zB_ 28) = W := ⟨_, rfl⟩
 have B1 : Below w.heap.size w W1 := by rw [← hW1]; exact belA (belA (bel0 w) _) _
 have S1 : W1.heap.size = w.heap.size + 2 := by rw [← hW1]; simp
 have V1 := Lib.hid (show Blk W1 w.heap.size 28 #[.slice A1 B.rg.length c1, .slice A2 B.hm.length c2, .slice A3 B.pd.length c3, .slice A4 B.dr.length c4, .int .i64 B.sq, .int .i64 B.bs, .int .i64 B.sf, .int .i64 B.at_, .int .i64 B.df] by rw [← hW1]; exact (Blk.new' _ _ _ _ rfl).alloc _)
 have R1 := Lib.hid (show Blk W1 (w.heap.size + 1) 28 zB_ by rw [← hW1]; exact Blk.new' _ _ _ _ (by simp))
 have HW1 := Lib.hid hW1
 clear hW1
 have Hb1 := Lib.hid (show IsBook W1 (.agg #[.slice A1 B.rg.length c1, .slice A2 B.hm.length c2, .slice A3 B.pd.length c3, .slice A4 B.dr.length c4, .int .i64 B.sq, .int .i64 B.bs, .int .i64 B.sf, .int .i64 B.at_, .int .i64 B.df]) B from ⟨_, _, _, _, _, _, _, _, rfl, H.out.next B1⟩)
 go_enter Tryz.func21, Tryz.ntmps21
 go_wp2_with fail
 rw [HW1.out]
 refine (bookOk_spec _ B sm W1  Hb1.out).mono ?_
 rintro e w1 ⟨rfl, hb1⟩
 have B2 := belN B1 hb1
 have s1 := hb1.size
 have V2 := Lib.hid (V1.out.below hb1 V1.out.lt)
 have R2 := Lib.hid (R1.out.below hb1 R1.out.lt)
 have Hb2 := Lib.hid (Hb1.out.next hb1)
 clear V1 R1 Hb1
 rcases hok : bookOkB B with _ | _
 ·have Hf := Lib.hid (fall_no (m := mk) hok)
  clear hok
  obtain ⟨q0, q1, q2, q3, q4, q5, q6, q7, q8⟩ := R2.out.g9
  obtain ⟨p0, p1, p2, p3, p4, p5, p6, p7, p8⟩ := R2.out.f9
  have l2 := R2.out.lt
  go_wp2
  obtain ⟨w9, h9, hB9, s9, hb9, ho9⟩ := put9 w1 (w.heap.size + 1) 28 (.slice none 0 0) (.slice none 0 0) (.slice none 0 0) (.slice none 0 0) (.int .i64 0) (.int .i64 0) (.int .i64 0) (.int .i64 0) (.int .i64 0) (.slice none 0 0) (.slice none 0 0) (.slice none 0 0) (.slice none 0 0) (.int .i64 0) (.int .i64 0) (.int .i64 0) (.int .i64 0) (.int .i64 0) R2.out
  rw [h9]
  clear h9 l2 q0 p0 q1 p1 q2 p2 q3 p3 q4 p4 q5 p5 q6 p6 q7 p7 q8 p8
  obtain ⟨r0, r1, r2, r3, r4, r5, r6, r7, r8⟩ := hB9.g9
  refine bodyPost_ret (v := .tuple #[.agg zB_, .bool false]) (by simp [results, Tryz.results21, go_sem, r0, r1, r2, r3, r4, r5, r6, r7, r8]) rfl ⟨⟨zeroBk, false, _, Hf.out, rfl, zero_own _ _⟩, hb9 _ _ (by omega) B2⟩
 ·have HP := Lib.hid (bk_is hok)
  have Hok := Lib.hid hok
  clear hok
  have hl := Lib.hid (bk_len sm)
  have h6 := HP.out.r
  have h2 := HP.out.h
  have hq := HP.out.q
  have hd := dir12 HP.out.d
  have Hlen := Lib.hid (show B.rg.length ≤ 100000 ∧ B.hm.length ≤ 100000 ∧ B.pd.length ≤ 100000 ∧ B.dr.length ≤ 100000 by omega)
  have H6 := Lib.hid h6
  have H2 := Lib.hid h2
  have hpn : B.pd.length ≤ 100000 := by omega
  clear h6 h2 hq hd hl
  obtain ⟨x0, x1, x2, x3, x4, x5, x6, x7, x8⟩ := V2.out.g9
  have l1 := V2.out.lt
  go_wp2_with fail
  clear l1 x0 x1 x2 x3 x4 x5 x6 x7 x8
  refine (l25Copy_any _ B Hlen.out w1 Hb2.out).mono ?_
  rintro e w2 ⟨v', rfl, hO, hb2⟩
  obtain ⟨_, _, _, _, ⟨F1, e1, F2, e2, A3', c3', A4', c4', rfl, rfl, rfl, rfl, rfl⟩, o1, o2, o3, o4, d12, d13, d14, d23, d24, d34⟩ := hO
  obtain ⟨g1, k1, he⟩ := own_form1 o1 (by have := H6.out; omega)
  simp only [Value.slice.injEq] at he
  obtain ⟨rfl, _, rfl⟩ := he
  obtain ⟨g2, k2, he⟩ := own_form1 o2 (by have := H2.out; omega)
  simp only [Value.slice.injEq] at he
  obtain ⟨rfl, _, rfl⟩ := he
  rw [H6.out] at o1 d12 d13 d14 ⊢
  rw [H2.out] at o2 d12 d23 d24 ⊢
  have B3 := belN B2 hb2
  have s2 := hb2.size
  have R3 := Lib.hid (R2.out.below hb2 R2.out.lt)
  have lr := R2.out.lt
  have V3 := Lib.hid (V2.out.below hb2 V2.out.lt)
  clear R2 V2
  have O1 := Lib.hid o1
  have O2 := Lib.hid o2
  have O3 := Lib.hid o3
  have O4 := Lib.hid o4
  have DD := Lib.hid (show _ ∧ _ ∧ _ ∧ _ ∧ _ from ⟨d12, d13, d14, d23, d24⟩)
  clear o1 o2 o3 o4 d12 d13 d14 d23 d24 d34
  go_wp2_with fail
  have p20 : B.pd.length ≤ 20 := HP.out.q
  refine (l25Mask_any g1 e1 g2 e2 w1.heap.size w1.heap.size A3' c3' A4' c4' B HP.out.p p20 mk hmk w2 s2 (Nat.le_refl _) O1.out O2.out O3.out O4.out DD.out.1 DD.out.2.1 DD.out.2.2.1 DD.out.2.2.2.1 DD.out.2.2.2.2).mono ?_
  rintro r w4 ⟨gn, rfl, hgn, p1, p2, _, _, hb4, _⟩
  have hne : g1 ≠ g2 := by
   rcases DD.out.1 with h | h | h
   ·cases h
   ·cases h
   ·intro e; exact h (by rw [e]; rfl)
  have s4 := hb4.size
  have s1b := B2.size
  have hsz := bk_szs sm
  have hwl := wrm_len (m := mk) (rg := B.rg) (hm := B.hm) (pd := B.pd) B.pd.length
  have hws := wrm_sz (m := mk) hsz.1 hsz.2.1 hsz.2.2.1 B.pd.length
  obtain ⟨⟨RG, HM⟩, hWR⟩ : ∃ p, wrmB mk B.rg B.hm B.pd B.pd.length = p := ⟨_, rfl⟩
  rw [hWR] at hwl hws p1 p2
  simp only at hwl hws p1 p2
  have Hfn := Lib.hid (fun ha => fall_none Hok.out hWR ha)
  have Hfs := Lib.hid (fun ha R hR => fall_some (R := R) Hok.out hWR ha hR)
  have Hwl := Lib.hid hwl
  have Hws := Lib.hid hws
  clear hsz hwl hws hWR Hok
  have Hmn := Lib.hid (hmN_ok HM)
  have V5 := Lib.hid (V3.out.below hb4 (by have := V3.out.lt; omega))
  have R5 := Lib.hid (R3.out.below hb4 (by have := R3.out.lt; omega))
  have L1 := own_hi p1 _ rfl
  have L2 := own_hi p2 _ rfl
  have M1 := own_lo p1 _ rfl
  have M2 := own_lo p2 _ rfl
  clear V3 R3 HP sm O1 O2 O3 O4 DD
  have hB4 : Below w.heap.size w w4 := B3.trans (hb4.mono B2.size)
  obtain ⟨W5, hW5⟩ : ∃ W, w4.alloc (.cells #[.slice (some ⟨g1, 0, none⟩) 6 e1, .slice (some ⟨g2, 0, none⟩) 2 e2, .slice (some ⟨gn, 0, none⟩) 0 0, .slice A4' B.dr.length c4', .int .i64 B.sq, .int .i64 B.bs, .int .i64 B.sf, .int .i64 B.at_, .int .i64 B.df] 28) = W := ⟨_, rfl⟩
  have hb5 : Below w4.heap.size w4 W5 := by rw [← hW5]; exact belA (bel0 _) _
  have hX : Blk W5 w4.heap.size 28 #[.slice (some ⟨g1, 0, none⟩) 6 e1, .slice (some ⟨g2, 0, none⟩) 2 e2, .slice (some ⟨gn, 0, none⟩) 0 0, .slice A4' B.dr.length c4', .int .i64 B.sq, .int .i64 B.bs, .int .i64 B.sf, .int .i64 B.at_, .int .i64 B.df] := by rw [← hW5]; exact Blk.new' _ _ _ _ rfl
  have s5 := hb5.size
  have P1 := Lib.hid (own_below p1 hb5 (Nat.le_refl _))
  have P2 := Lib.hid (own_below p2 hb5 (Nat.le_refl _))
  clear p1 p2
  have B5 : Below w1.heap.size w1 W5 := (hb2.trans (hb4.mono (show w1.heap.size ≤ w1.heap.size from Nat.le_refl _))).trans (hb5.mono (by omega))
  have hBx := Lib.hid (hB4.trans (hb5.mono hB4.size))
  go_upto_region 4 with fail
  try rw [hW5]
  clear hW5
  have lX := hX.lt
  have HX := Lib.hid hX
  clear hX
  have V6 := Lib.hid (V5.out.below hb5 V5.out.lt)
  have R6 := Lib.hid (R5.out.below hb5 R5.out.lt)
  clear V5 R5
  have own0 := World.ownsRow_lit (e := 66) (size := 4) W5 #[] 0 (Nat.le_refl _) (by unfold maxLen; omega) rfl
  go_wp2
  go_loopw [7, 8, 9, 10] (fun at' bs' D i wr => ∃ q : Nat, q ≤ 2 ∧ i = .int .i64 q ∧ at' = .int .i64 (hmN HM q).at_ ∧ bs' = .int .i64 (hmN HM q).bs ∧ ∃ AD cD, D = .slice AD (hmN HM q).dr.length cD ∧ Hid (Blk wr w4.heap.size 28 #[.slice (some ⟨g1, 0, none⟩) 6 e1, .slice (some ⟨g2, 0, none⟩) 2 e2, .slice (some ⟨gn, 0, none⟩) 0 0, .slice A4' B.dr.length c4', .int .i64 B.sq, .int .i64 B.bs, .int .i64 B.sf, .int .i64 B.at_, .int .i64 B.df]) ∧ Hid (wr.ownsRow w1.heap.size 66 4 (.slice AD (hmN HM q).dr.length cD) (hmN HM q).dr.length (ES (hmN HM q).dr)) ∧ Hid (∀ k, (Value.slice AD (hmN HM q).dr.length cD).ownBlock = some k → k ≠ g1 ∧ k ≠ g2) ∧ Hid (wr.ownsRow w1.heap.size 9 1 (.slice (some ⟨g1, 0, none⟩) 6 e1) 6 (SS RG)) ∧ Hid (wr.ownsRow w1.heap.size 9 1 (.slice (some ⟨g2, 0, none⟩) 2 e2) 2 (SS HM)) ∧ Below W5.heap.size W5 wr)
   (fun _ _ _ i _ => 2 - (intOf i).toNat)
  case atStart =>
   refine ⟨0, by omega, rfl, rfl, rfl, some ⟨W5.heap.size, 0, none⟩, 0, rfl, HX.out.alloc _, own_more own0 (by omega), fun k hk => ?_, P1.out.alloc _, P2.out.alloc _, belA (bel0 _) _⟩
   have hk2 : W5.heap.size = k := (by simpa [Value.ownBlock] using hk)
   omega
  case round =>
   clear own0 P1 P2
   obtain ⟨q, hq, rfl, rfl, rfl, AD, cD, rfl, hC, PD, HD, P1, P2, hbl⟩ := hrel
   have lC := hC.out.lt
   have sz6 := hbl.size
   have Bw6 := hBx.out.trans (hbl.mono (Nat.le_trans hB4.size hb5.size))
   by_cases hlt : q < 2
   ·obtain ⟨zt, hqH⟩ := own_str P2.out hlt
    have x1 := hC.out.get (x := .slice (some ⟨g2, 0, none⟩) 2 e2) 1 rfl
    have q0 : (0 : Int) ≤ ↑q := by omega
    have q1 : (↑q : Int) < 2 := by omega
    have hst : hmN HM (q + 1) = hmS (hmN HM q) q (HM.getD q ⟨#[]⟩) := rfl
    have hsz := getD_sz Hws.out.2 q
    obtain ⟨s, hs⟩ : ∃ s, HM.getD q ⟨#[]⟩ = s := ⟨_, rfl⟩
    rw [hs] at zt hst hsz
    clear hs
    obtain ⟨⟨⟨sq, L⟩, ok⟩, hho⟩ : ∃ p, homeP s = p := ⟨_, rfl⟩
    have Hrd := Lib.hid (fun W => readHome_falls s (by omega) hho W)
    have Hyes := Lib.hid (fun hc => hmS_yes (st := hmN HM q) (i := (q : Int)) (s := s) hc)
    have Hno := Lib.hid (fun hc => hmS_no (st := hmN HM q) (i := (q : Int)) (s := s) hc)
    simp only [hho] at Hyes Hno
    have Hst := Lib.hid hst
    clear hho hst
    obtain ⟨st, hstq⟩ : ∃ st, hmN HM q = st := ⟨_, rfl⟩
    rw [hstq] at PD HD Hst
    simp only [hstq] at Hyes Hno ⊢
    clear hstq
    cases ok
    case false =>
     go_wp2_with fail
     refine (Hrd.out _).mono ?_
     rintro r w7 ⟨v, rfl, own7, hb7⟩
     obtain ⟨A7, c7, hv7, _⟩ := own_vals own7
     subst hv7
     have hC7 := hC.out.below hb7 hC.out.lt
     have Own7 := Lib.hid own7
     have T1 := Lib.hid (own_below P1.out hb7 (Nat.le_refl _))
     have T2 := Lib.hid (own_below P2.out hb7 (Nat.le_refl _))
     have T4 := Lib.hid (own_below PD.out hb7 (Nat.le_refl _))
     have hb8 := hbl.trans (hb7.mono (show W5.heap.size ≤ wr.heap.size by omega))
     have lv := own_lo own7
     clear own7 zt x1
     have hn := Hno.out (fun hc => by cases hc.1)
     go_wp2
     go_roundw
     case rel =>
      refine ⟨q + 1, by omega, by go_num, by rw [Hst.out, hn], by rw [Hst.out, hn], AD, cD, by rw [Hst.out, hn], hC7, ?_, ?_, T1.out, T2.out, hb8⟩
      ·show World.ownsRow _ _ _ _ _ _ _; rw [Hst.out, hn]; exact T4.out
      ·show ∀ k, _; rw [Hst.out, hn]; exact HD.out
     case measure => simp [intOf]; omega
    case true =>
     by_cases hat : st.at_ < 0
     ·go_wp2_with fail
      refine (Hrd.out _).mono ?_
      rintro r w7 ⟨v, rfl, own7, hb7⟩
      obtain ⟨A7, c7, hv7, _⟩ := own_vals own7
      subst hv7
      have hC7 := hC.out.below hb7 hC.out.lt
      have Own7 := Lib.hid own7
      have T1 := Lib.hid (own_below P1.out hb7 (Nat.le_refl _))
      have T2 := Lib.hid (own_below P2.out hb7 (Nat.le_refl _))
      have T4 := Lib.hid (own_below PD.out hb7 (Nat.le_refl _))
      have hb8 := hbl.trans (hb7.mono (show W5.heap.size ≤ wr.heap.size by omega))
      have lv := own_lo own7
      clear own7 zt x1
      have hn := Hyes.out (by first | exact ⟨rfl, .inl hat⟩ | exact ⟨trivial, .inl hat⟩)
      go_wp2
      go_roundw
      case rel =>
       refine ⟨q + 1, by omega, by go_num, by rw [Hst.out, hn], by rw [Hst.out, hn], A7, c7, by rw [Hst.out, hn], hC7, ?_, ?_, T1.out, T2.out, hb8⟩
       ·show World.ownsRow _ _ _ _ _ _ _; rw [Hst.out, hn]; exact own_more Own7.out (by omega)
       ·show ∀ k, _; rw [Hst.out, hn]; intro k hk; have := lv k hk; omega
      case measure => simp [intOf]; omega
     ·by_cases hgt : st.bs < sq
      ·have hgt2 : sq > st.bs := hgt
       go_wp2_with fail
       refine (Hrd.out _).mono ?_
       rintro r w7 ⟨v, rfl, own7, hb7⟩
       obtain ⟨A7, c7, hv7, _⟩ := own_vals own7
       subst hv7
       have hC7 := hC.out.below hb7 hC.out.lt
       have Own7 := Lib.hid own7
       have T1 := Lib.hid (own_below P1.out hb7 (Nat.le_refl _))
       have T2 := Lib.hid (own_below P2.out hb7 (Nat.le_refl _))
       have T4 := Lib.hid (own_below PD.out hb7 (Nat.le_refl _))
       have hb8 := hbl.trans (hb7.mono (show W5.heap.size ≤ wr.heap.size by omega))
       have lv := own_lo own7
       clear own7 zt x1
       have hn := Hyes.out (by first | exact ⟨rfl, .inr hgt⟩ | exact ⟨trivial, .inr hgt⟩)
       go_wp2
       go_roundw
       case rel =>
        refine ⟨q + 1, by omega, by go_num, by rw [Hst.out, hn], by rw [Hst.out, hn], A7, c7, by rw [Hst.out, hn], hC7, ?_, ?_, T1.out, T2.out, hb8⟩
        ·show World.ownsRow _ _ _ _ _ _ _; rw [Hst.out, hn]; exact own_more Own7.out (by omega)
        ·show ∀ k, _; rw [Hst.out, hn]; intro k hk; have := lv k hk; omega
       case measure => simp [intOf]; omega
      ·have hgt2 : ¬ (sq > st.bs) := by omega
       go_wp2_with fail
       refine (Hrd.out _).mono ?_
       rintro r w7 ⟨v, rfl, own7, hb7⟩
       obtain ⟨A7, c7, hv7, _⟩ := own_vals own7
       subst hv7
       have hC7 := hC.out.below hb7 hC.out.lt
       have Own7 := Lib.hid own7
       have T1 := Lib.hid (own_below P1.out hb7 (Nat.le_refl _))
       have T2 := Lib.hid (own_below P2.out hb7 (Nat.le_refl _))
       have T4 := Lib.hid (own_below PD.out hb7 (Nat.le_refl _))
       have hb8 := hbl.trans (hb7.mono (show W5.heap.size ≤ wr.heap.size by omega))
       have lv := own_lo own7
       clear own7 zt x1
       have hn := Hno.out (fun hc => by rcases hc.2 with h | h <;> omega)
       go_wp2
       go_roundw
       case rel =>
        refine ⟨q + 1, by omega, by go_num, by rw [Hst.out, hn], by rw [Hst.out, hn], AD, cD, by rw [Hst.out, hn], hC7, ?_, ?_, T1.out, T2.out, hb8⟩
        ·show World.ownsRow _ _ _ _ _ _ _; rw [Hst.out, hn]; exact T4.out
        ·show ∀ k, _; rw [Hst.out, hn]; exact HD.out
       case measure => simp [intOf]; omega
   ·obtain rfl : q = 2 := by omega
    have V7 := Lib.hid (V6.out.below hbl V6.out.lt)
    have R7 := Lib.hid (R6.out.below hbl R6.out.lt)
    obtain ⟨st, hst⟩ : ∃ st, hmN HM 2 = st := ⟨_, rfl⟩
    have Hmk := Lib.hid (Hmn.out 2 (Nat.le_refl _))
    simp only [hst] at PD HD Hmk Hfn Hfs ⊢
    clear hst
    rename World => w6
    by_cases hat : st.at_ < 0
    ·have Hf := Lib.hid (Hfn.out hat)
     have x0 := V7.out.get (x := .slice A1 B.rg.length c1) 0 rfl
     have x1 := V7.out.get (x := .slice A2 B.hm.length c2) 1 rfl
     have x2 := V7.out.get (x := .slice A3 B.pd.length c3) 2 rfl
     have x3 := V7.out.get (x := .slice A4 B.dr.length c4) 3 rfl
     have x4 := V7.out.get (x := .int .i64 B.sq) 4 rfl
     have x5 := V7.out.get (x := .int .i64 B.bs) 5 rfl
     have x6 := V7.out.get (x := .int .i64 B.sf) 6 rfl
     have x7 := V7.out.get (x := .int .i64 B.at_) 7 rfl
     have x8 := V7.out.get (x := .int .i64 B.df) 8 rfl
     have lv6 := V7.out.lt
     go_wp2_with fail
     clear lv6 x0 x1 x2 x3 x4 x5 x6 x7 x8
     refine (l25Copy_any (.agg #[.slice A1 B.rg.length c1, .slice A2 B.hm.length c2, .slice A3 B.pd.length c3, .slice A4 B.dr.length c4, .int .i64 B.sq, .int .i64 B.bs, .int .i64 B.sf, .int .i64 B.at_, .int .i64 B.df]) B Hlen.out w6 ⟨_, _, _, _, _, _, _, _, rfl, H.out.next Bw6⟩).mono ?_
     rintro e w8 ⟨v8, rfl, hO8, hb8⟩
     obtain ⟨_, _, _, _, ⟨F1, u1, F2, u2, F3, u3, F4, u4, rfl, rfl, rfl, rfl, rfl⟩, o1, o2, o3, o4, d12, d13, d14, d23, d24, d34⟩ := hO8
     have R8 := Lib.hid (R7.out.below hb8 R7.out.lt)
     have s8 := hb8.size
     have l6 := R7.out.lt
     have B8 := belN Bw6 hb8
     obtain ⟨q0, q1, q2, q3, q4, q5, q6, q7, q8⟩ := R8.out.g9
     obtain ⟨p0, p1, p2, p3, p4, p5, p6, p7, p8⟩ := R8.out.f9
     have lq := R8.out.lt
     go_wp2
     obtain ⟨w9, h9, hB9, s9, hb9, ho9⟩ := put9 w8 (w.heap.size + 1) 28 (.slice F1 B.rg.length u1) (.slice F2 B.hm.length u2) (.slice F3 B.pd.length u3) (.slice F4 B.dr.length u4) (.int .i64 B.sq) (.int .i64 B.bs) (.int .i64 B.sf) (.int .i64 B.at_) (.int .i64 B.df) (.slice none 0 0) (.slice none 0 0) (.slice none 0 0) (.slice none 0 0) (.int .i64 0) (.int .i64 0) (.int .i64 0) (.int .i64 0) (.int .i64 0) R8.out
     rw [h9]
     clear h9 lq q0 p0 q1 p1 q2 p2 q3 p3 q4 p4 q5 p5 q6 p6 q7 p7 q8 p8
     obtain ⟨r0, r1, r2, r3, r4, r5, r6, r7, r8⟩ := hB9.g9
     refine bodyPost_ret (v := .tuple #[.agg #[.slice F1 B.rg.length u1, .slice F2 B.hm.length u2, .slice F3 B.pd.length u3, .slice F4 B.dr.length u4, .int .i64 B.sq, .int .i64 B.bs, .int .i64 B.sf, .int .i64 B.at_, .int .i64 B.df], .bool false]) (by simp [results, Tryz.results21, go_sem, r0, r1, r2, r3, r4, r5, r6, r7, r8]) rfl ⟨⟨B, false, _, Hf.out, rfl, ?_⟩, hb9 _ _ (by omega) B8⟩
     exact ⟨_, _, _, _, ⟨F1, u1, F2, u2, F3, u3, F4, u4, rfl, rfl, rfl, rfl, rfl⟩, own_more (ho9 _ _ _ _ _ _ (by omega) o1) (by omega), own_more (ho9 _ _ _ _ _ _ (by omega) o2) (by omega), own_more (ho9 _ _ _ _ _ _ (by omega) o3) (by omega), own_more (ho9 _ _ _ _ _ _ (by omega) o4) (by omega), d12, d13, d14, d23, d24, d34⟩
    ·have hnat := Lib.hid hat
     obtain ⟨R, hR⟩ : ∃ R, fallN RG 6 st.dr st.bs (List.replicate 6 ⟨#[]⟩) = R := ⟨_, rfl⟩
     have HfR := Lib.hid (Hfs.out (by omega) R hR)
     obtain ⟨hb0, hb1, hdk⟩ := Hmk.out.2 (by omega)
     obtain ⟨hde, hdl⟩ := dirOk_sz hdk
     have Hde := Lib.hid hde
     have HR := Lib.hid hR
     clear hR hde hdk Hfn Hfs Hmk Hmn
     have HRG6 := Lib.hid (show RG.length = 6 by have := Hwl.out.1; have := H6.out; omega)
     have HRGs := Lib.hid Hws.out.1
     have hmkS : ∀ W : World, (Instr.makeSlice 24 (.int .i64 6) (.int .i64 6)).run Tryz.prog W = .ok (.slice (some ⟨W.heap.size, 0, none⟩) 6 6) (W.alloc (.cells #[.string ⟨#[]⟩, .string ⟨#[]⟩, .string ⟨#[]⟩, .string ⟨#[]⟩, .string ⟨#[]⟩, .string ⟨#[]⟩] 9)) :=
      fun W => by
       have h := make_any (P := Tryz.prog) 24 9 (.string ⟨#[]⟩) 1 16 Tryz.underlying24 (by kernel_rfl) 6 (by omega) (by omega) W
       rw [show madeCells (Value.string ⟨#[]⟩).cells (6 * 1) = #[.string ⟨#[]⟩, .string ⟨#[]⟩, .string ⟨#[]⟩, .string ⟨#[]⟩, .string ⟨#[]⟩, .string ⟨#[]⟩] by kernel_rfl] at h
       exact h
     have own5 := World.ownsRow_lit (e := 9) (size := 1) w6 #[.string ⟨#[]⟩, .string ⟨#[]⟩, .string ⟨#[]⟩, .string ⟨#[]⟩, .string ⟨#[]⟩, .string ⟨#[]⟩] 6 (Nat.le_refl _) (by unfold maxLen; omega) rfl
     have K5 := Lib.hid (own_more own5 (show w1.heap.size ≤ w6.heap.size by omega))
     have HD6 := Lib.hid (fun k (hk : (Value.slice AD st.dr.length cD).ownBlock = some k) => show k ≠ g2 ∧ k ≠ w6.heap.size from ⟨(HD.out k hk).2, Nat.ne_of_lt (own_hi PD.out k hk)⟩)
     have hbz : Below w6.heap.size w6 (w6.alloc (.cells #[.string ⟨#[]⟩, .string ⟨#[]⟩, .string ⟨#[]⟩, .string ⟨#[]⟩, .string ⟨#[]⟩, .string ⟨#[]⟩] 9)) := belA (bel0 _) _
     clear own5
     go_wp2
     go_loopw [9, 15, 16] (fun D sq' i wr => ∃ n : Nat, n ≤ 6 ∧ i = .int .i64 n ∧ sq' = .int .i64 (st.bs + n) ∧ ∃ ds rg AD cD, D = .slice AD ds.length cD ∧ Hid (fallN RG (6 - n) ds (st.bs + n) rg = R) ∧ Hid (SzE 24 ds) ∧ ds.length ≤ 12 + n ∧ Hid (Blk wr w4.heap.size 28 #[.slice (some ⟨g1, 0, none⟩) 6 e1, .slice (some ⟨g2, 0, none⟩) 2 e2, .slice (some ⟨gn, 0, none⟩) 0 0, .slice A4' B.dr.length c4', .int .i64 B.sq, .int .i64 B.bs, .int .i64 B.sf, .int .i64 B.at_, .int .i64 B.df]) ∧ Hid (wr.ownsRow w1.heap.size 66 4 (.slice AD ds.length cD) ds.length (ES ds)) ∧ Hid (∀ k, (Value.slice AD ds.length cD).ownBlock = some k → k ≠ g2 ∧ k ≠ w6.heap.size) ∧ Hid (wr.ownsRow w1.heap.size 9 1 (.slice (some ⟨w6.heap.size, 0, none⟩) 6 6) 6 (SS rg)) ∧ Hid (wr.ownsRow w1.heap.size 9 1 (.slice (some ⟨g1, 0, none⟩) 6 e1) 6 (SS RG)) ∧ Hid (wr.ownsRow w1.heap.size 9 1 (.slice (some ⟨g2, 0, none⟩) 2 e2) 2 (SS HM)) ∧ w6.heap.size < wr.heap.size ∧ Below w6.heap.size w6 wr)
      (fun _ _ i _ => 6 - (intOf i).toNat)
     case atStart =>
      refine ⟨0, by omega, rfl, by rw [show st.bs + ((0 : Nat) : Int) = st.bs by omega], st.dr, List.replicate 6 ⟨#[]⟩, AD, cD, rfl, ?_, Hde.out, by omega, hC.out.alloc _, PD.out.alloc _, HD6.out, K5.out, P1.out.alloc _, P2.out.alloc _, by simp, hbz⟩
      rw [show st.bs + ((0 : Nat) : Int) = st.bs by omega]; exact HR.out
     case round =>
      clear K5 HD6 hbz hC PD HD P1 P2 lC
      obtain ⟨n, hn6, rfl, rfl, ds, rg, AD, cD, rfl, hfn, hze, hdl2, hC, PD, HD, P5, P1, P2, hs6, hbr⟩ := hrel
      have lC := hC.out.lt
      have Bwr := Bw6.trans (hbr.mono (show w.heap.size ≤ w6.heap.size from Bw6.size))
      have x1 := hC.out.get (x := .slice (some ⟨g2, 0, none⟩) 2 e2) 1 rfl
      by_cases hlt : n < 6
      rotate_left
      ·have hnI : ¬ ((n : Int) < 6) := by omega
       have Hend := Lib.hid (show (ds, st.bs + (n : Int), rg) = R by rw [← hfn.out, show 6 - n = 0 by omega]; rfl)
       have R9 := Lib.hid (R7.out.below hbr R7.out.lt)
       have BBz := Bw6.trans (hbr.mono (show w.heap.size ≤ w6.heap.size from Bw6.size))
       have lR7 := R7.out.lt
       obtain ⟨q0, q1, q2, q3, q4, q5, q6, q7, q8⟩ := R9.out.g9
       obtain ⟨p0, p1, p2, p3, p4, p5, p6, p7, p8⟩ := R9.out.f9
       have lq := R9.out.lt
       go_wp2
       obtain ⟨w9, h9, hB9, s9, hb9, ho9⟩ := put9 wr (w.heap.size + 1) 28 (.slice (some ⟨w6.heap.size, 0, none⟩) 6 6) (.slice (some ⟨g2, 0, none⟩) 2 e2) (.slice none 0 0) (.slice AD ds.length cD) (.int .i64 (st.bs + n)) (.int .i64 st.bs) (.int .i64 (st.bs + n)) (.int .i64 st.at_) (.int .i64 0) (.slice none 0 0) (.slice none 0 0) (.slice none 0 0) (.slice none 0 0) (.int .i64 0) (.int .i64 0) (.int .i64 0) (.int .i64 0) (.int .i64 0) R9.out
       rw [h9]
       clear h9 lq q0 p0 q1 p1 q2 p2 q3 p3 q4 p4 q5 p5 q6 p6 q7 p7 q8 p8
       obtain ⟨r0, r1, r2, r3, r4, r5, r6, r7, r8⟩ := hB9.g9
       refine bodyPost_ret (v := .tuple #[.agg #[.slice (some ⟨w6.heap.size, 0, none⟩) 6 6, .slice (some ⟨g2, 0, none⟩) 2 e2, .slice none 0 0, .slice AD ds.length cD, .int .i64 (st.bs + n), .int .i64 st.bs, .int .i64 (st.bs + n), .int .i64 st.at_, .int .i64 0], .bool true]) (by simp [results, Tryz.results21, go_sem, r0, r1, r2, r3, r4, r5, r6, r7, r8]) rfl ⟨⟨_, true, _, HfR.out, rfl, ?_⟩, hb9 _ _ (by omega) BBz⟩
       have hRe := Hend.out
       subst hRe
       have n5 := P5.out.1
       have n2 := P2.out.1
       rw [show (SS rg).length = rg.length by simp [SS]] at n5
       rw [show (SS HM).length = HM.length by simp [SS]] at n2
       refine ⟨.slice (some ⟨w6.heap.size, 0, none⟩) 6 6, .slice (some ⟨g2, 0, none⟩) 2 e2, .slice none 0 0, .slice AD ds.length cD, ⟨some ⟨w6.heap.size, 0, none⟩, 6, some ⟨g2, 0, none⟩, e2, none, 0, AD, cD, ?_, ?_, rfl, rfl, rfl⟩, ?_, ?_, own_nilC _ _ _ _, own_more (ho9 _ _ _ _ _ _ (by omega) PD.out) (by omega), ?_, dis_n _ _ _, ?_, dis_n _ _ _, ?_, .inl rfl⟩
       ·show (Value.slice (some ⟨w6.heap.size, 0, none⟩) 6 6) = .slice (some ⟨w6.heap.size, 0, none⟩) rg.length 6; rw [show rg.length = 6 by omega]
       ·show (.slice (some ⟨g2, 0, none⟩) 2 e2 : Value) = .slice (some ⟨g2, 0, none⟩) HM.length e2; rw [show HM.length = 2 by omega]
       ·show World.ownsRow _ _ _ _ _ rg.length _; rw [show rg.length = 6 by omega]; exact own_more (ho9 _ _ _ _ _ _ (by omega) P5.out) (by omega)
       ·show World.ownsRow _ _ _ _ _ HM.length _; rw [show HM.length = 2 by omega]; exact own_more (ho9 _ _ _ _ _ _ (by omega) P2.out) (by omega)
       ·right; right; intro h; have h2 : w6.heap.size = g2 := (by simpa [Value.ownBlock] using h); omega
       ·rcases hAo : (Value.slice AD ds.length cD).ownBlock with _ | kk
        ·exact .inr (.inl hAo)
        ·right; right; rw [hAo]; intro h; injection h with h; exact (HD.out kk hAo).2 h.symm
       ·rcases hAo : (Value.slice AD ds.length cD).ownBlock with _ | kk
        ·exact .inr (.inl hAo)
        ·right; right; rw [hAo]; intro h; injection h with h; exact (HD.out kk hAo).1 h.symm
      ·have x0 := hC.out.get (x := .slice (some ⟨g1, 0, none⟩) 6 e1) 0 rfl
       have hRl := HRG6.out
       have hnI : (n : Int) < 6 := by omega
       obtain ⟨q, hq⟩ : ∃ q : Int, st.bs + n + 1 = q := ⟨_, rfl⟩
       have Hra := Lib.hid (fun W hr => l24At_any (some ⟨g1, 0, none⟩) e1 RG q hRl (by omega) (fun s hs => Nat.le_trans (HRGs.out s hs) (by omega)) W hr)
       have htz := txt_sz HRGs.out hRl q
       have Hq := Lib.hid hq
       go_wp2_with fail
       try rw [hq]
       clear hq
       refine (Hra.out _ (own_rd P1.out)).mono ?_
       rintro e w8 ⟨hpost, hb8⟩
       cases hrc : recAtB RG q
       ·obtain ⟨r, t, rfl, hts⟩ := hpost.no2 hrc
        clear hpost
        have C8 := Lib.hid (hC.out.below hb8 hC.out.lt)
        have Q58 := Lib.hid (own_below P5.out hb8 (Nat.le_refl _))
        have Q18 := Lib.hid (own_below P1.out hb8 (Nat.le_refl _))
        have Q28 := Lib.hid (own_below P2.out hb8 (Nat.le_refl _))
        have QD8 := Lib.hid (own_below PD.out hb8 (Nat.le_refl _))
        clear x0 x1
        have bel8 := hbr.trans (hb8.mono (show w6.heap.size ≤ wr.heap.size by omega))
        have z8 := hb8.size
        obtain ⟨⟨⟨ok1, nm, oi⟩, ok⟩, hop⟩ : ∃ p, opP t = p := ⟨_, rfl⟩
        have Hend := Lib.hid (show (ds, st.bs + (n : Int), rg) = R by rw [← hfn.out, fallN_stop (fall_norec (by rw [Hq.out]; exact hrc))])
        have Hro := Lib.hid (fun W => readOp_falls t (by omega) hop W)
        clear hop hrc hts
        go_wp2_with fail
        refine (Hro.out _).mono ?_
        rintro e w9 ⟨rfl, hb9⟩
        obtain ⟨wb, hwb⟩ : ∃ W, w9.alloc (.cells #[.int .i64 ok1, .string nm, .int .i64 oi] 32) = W := ⟨_, rfl⟩
        have hbb : Below w8.heap.size w8 wb := by rw [← hwb]; exact belA (belN (belA (bel0 w8) _) hb9) _
        have hOp : Blk wb w9.heap.size 32 #[.int .i64 ok1, .string nm, .int .i64 oi] := by rw [← hwb]; exact Blk.new' _ _ _ _ rfl
        have Cb := Lib.hid (C8.out.below hbb C8.out.lt)
        have Q5b := Lib.hid (own_below Q58.out hbb (Nat.le_refl _))
        have Q1b := Lib.hid (own_below Q18.out hbb (Nat.le_refl _))
        have Q2b := Lib.hid (own_below Q28.out hbb (Nat.le_refl _))
        have QDb := Lib.hid (own_below QD8.out hbb (Nat.le_refl _))
        have belb := bel8.trans (hbb.mono (show w6.heap.size ≤ w8.heap.size by omega))
        have zb := hbb.size
        go_upto_region 30 with fail
        try rw [hwb]
        clear hwb hOp
        have R9 := Lib.hid (R7.out.below belb R7.out.lt)
        have BBz := Bw6.trans (belb.mono (show w.heap.size ≤ w6.heap.size from Bw6.size))
        have lR7 := R7.out.lt
        have x1 := Cb.out.get (x := .slice (some ⟨g2, 0, none⟩) 2 e2) 1 rfl
        have lc := Cb.out.lt
        obtain ⟨q0, q1, q2, q3, q4, q5, q6, q7, q8⟩ := R9.out.g9
        obtain ⟨p0, p1, p2, p3, p4, p5, p6, p7, p8⟩ := R9.out.f9
        have lq := R9.out.lt
        go_wp2
        obtain ⟨w9, h9, hB9, s9, hb9, ho9⟩ := put9 wb (w.heap.size + 1) 28 (.slice (some ⟨w6.heap.size, 0, none⟩) 6 6) (.slice (some ⟨g2, 0, none⟩) 2 e2) (.slice none 0 0) (.slice AD ds.length cD) (.int .i64 (st.bs + n)) (.int .i64 st.bs) (.int .i64 (st.bs + n)) (.int .i64 st.at_) (.int .i64 0) (.slice none 0 0) (.slice none 0 0) (.slice none 0 0) (.slice none 0 0) (.int .i64 0) (.int .i64 0) (.int .i64 0) (.int .i64 0) (.int .i64 0) R9.out
        rw [h9]
        clear h9 lq q0 p0 q1 p1 q2 p2 q3 p3 q4 p4 q5 p5 q6 p6 q7 p7 q8 p8
        obtain ⟨r0, r1, r2, r3, r4, r5, r6, r7, r8⟩ := hB9.g9
        refine bodyPost_ret (v := .tuple #[.agg #[.slice (some ⟨w6.heap.size, 0, none⟩) 6 6, .slice (some ⟨g2, 0, none⟩) 2 e2, .slice none 0 0, .slice AD ds.length cD, .int .i64 (st.bs + n), .int .i64 st.bs, .int .i64 (st.bs + n), .int .i64 st.at_, .int .i64 0], .bool true]) (by simp [results, Tryz.results21, go_sem, r0, r1, r2, r3, r4, r5, r6, r7, r8]) rfl ⟨⟨_, true, _, HfR.out, rfl, ?_⟩, hb9 _ _ (by omega) BBz⟩
        have hRe := Hend.out
        subst hRe
        have n5 := Q5b.out.1
        have n2 := Q2b.out.1
        rw [show (SS rg).length = rg.length by simp [SS]] at n5
        rw [show (SS HM).length = HM.length by simp [SS]] at n2
        refine ⟨.slice (some ⟨w6.heap.size, 0, none⟩) 6 6, .slice (some ⟨g2, 0, none⟩) 2 e2, .slice none 0 0, .slice AD ds.length cD, ⟨some ⟨w6.heap.size, 0, none⟩, 6, some ⟨g2, 0, none⟩, e2, none, 0, AD, cD, ?_, ?_, rfl, rfl, rfl⟩, ?_, ?_, own_nilC _ _ _ _, own_more (ho9 _ _ _ _ _ _ (by omega) QDb.out) (by omega), ?_, dis_n _ _ _, ?_, dis_n _ _ _, ?_, .inl rfl⟩
        ·show (Value.slice (some ⟨w6.heap.size, 0, none⟩) 6 6) = .slice (some ⟨w6.heap.size, 0, none⟩) rg.length 6; rw [show rg.length = 6 by omega]
        ·show (.slice (some ⟨g2, 0, none⟩) 2 e2 : Value) = .slice (some ⟨g2, 0, none⟩) HM.length e2; rw [show HM.length = 2 by omega]
        ·show World.ownsRow _ _ _ _ _ rg.length _; rw [show rg.length = 6 by omega]; exact own_more (ho9 _ _ _ _ _ _ (by omega) Q5b.out) (by omega)
        ·show World.ownsRow _ _ _ _ _ HM.length _; rw [show HM.length = 2 by omega]; exact own_more (ho9 _ _ _ _ _ _ (by omega) Q2b.out) (by omega)
        ·right; right; intro h; have h2 : w6.heap.size = g2 := (by simpa [Value.ownBlock] using h); omega
        ·rcases hAo : (Value.slice AD ds.length cD).ownBlock with _ | kk
         ·exact .inr (.inl hAo)
         ·right; right; rw [hAo]; intro h; injection h with h; exact (HD.out kk hAo).2 h.symm
        ·rcases hAo : (Value.slice AD ds.length cD).ownBlock with _ | kk
         ·exact .inr (.inl hAo)
         ·right; right; rw [hAo]; intro h; injection h with h; exact (HD.out kk hAo).1 h.symm
       ·obtain rfl := hpost.yes hrc
        clear hpost
        have C8 := Lib.hid (hC.out.below hb8 hC.out.lt)
        have Q58 := Lib.hid (own_below P5.out hb8 (Nat.le_refl _))
        have Q18 := Lib.hid (own_below P1.out hb8 (Nat.le_refl _))
        have Q28 := Lib.hid (own_below P2.out hb8 (Nat.le_refl _))
        have QD8 := Lib.hid (own_below PD.out hb8 (Nat.le_refl _))
        clear x0 x1
        have bel8 := hbr.trans (hb8.mono (show w6.heap.size ≤ wr.heap.size by omega))
        have z8 := hb8.size
        obtain ⟨t, ht⟩ : ∃ t, txtAt RG q = t := ⟨_, rfl⟩
        rw [ht] at htz ⊢
        obtain ⟨⟨⟨ok1, nm, oi⟩, ok⟩, hop⟩ : ∃ p, opP t = p := ⟨_, rfl⟩
        have Hro := Lib.hid (fun W => readOp_falls t (by omega) hop W)
        have Hop := Lib.hid (show opP (txtAt RG q) = ((ok1, nm, oi), ok) by rw [ht]; exact hop)
        have Hrc := Lib.hid hrc
        clear hop hrc ht
        go_wp2_with fail
        refine (Hro.out _).mono ?_
        rintro e w9 ⟨rfl, hb9⟩
        obtain ⟨wb, hwb⟩ : ∃ W, w9.alloc (.cells #[.int .i64 ok1, .string nm, .int .i64 oi] 32) = W := ⟨_, rfl⟩
        have hbb : Below w8.heap.size w8 wb := by rw [← hwb]; exact belA (belN (belA (bel0 w8) _) hb9) _
        have hOp : Blk wb w9.heap.size 32 #[.int .i64 ok1, .string nm, .int .i64 oi] := by rw [← hwb]; exact Blk.new' _ _ _ _ rfl
        have Cb := Lib.hid (C8.out.below hbb C8.out.lt)
        have Q5b := Lib.hid (own_below Q58.out hbb (Nat.le_refl _))
        have Q1b := Lib.hid (own_below Q18.out hbb (Nat.le_refl _))
        have Q2b := Lib.hid (own_below Q28.out hbb (Nat.le_refl _))
        have QDb := Lib.hid (own_below QD8.out hbb (Nat.le_refl _))
        have belb := bel8.trans (hbb.mono (show w6.heap.size ≤ w8.heap.size by omega))
        have zb := hbb.size
        cases ok
        case false =>
         have Hend := Lib.hid (show (ds, st.bs + (n : Int), rg) = R by rw [← hfn.out, fallN_stop (fall_noop (by rw [Hq.out, Hop.out]))])
         go_upto_region 30 with fail
         try rw [hwb]
         clear hwb hOp
         have R9 := Lib.hid (R7.out.below belb R7.out.lt)
         have BBz := Bw6.trans (belb.mono (show w.heap.size ≤ w6.heap.size from Bw6.size))
         have lR7 := R7.out.lt
         have x1 := Cb.out.get (x := .slice (some ⟨g2, 0, none⟩) 2 e2) 1 rfl
         have lc := Cb.out.lt
         obtain ⟨q0, q1, q2, q3, q4, q5, q6, q7, q8⟩ := R9.out.g9
         obtain ⟨p0, p1, p2, p3, p4, p5, p6, p7, p8⟩ := R9.out.f9
         have lq := R9.out.lt
         go_wp2
         obtain ⟨w9, h9, hB9, s9, hb9, ho9⟩ := put9 wb (w.heap.size + 1) 28 (.slice (some ⟨w6.heap.size, 0, none⟩) 6 6) (.slice (some ⟨g2, 0, none⟩) 2 e2) (.slice none 0 0) (.slice AD ds.length cD) (.int .i64 (st.bs + n)) (.int .i64 st.bs) (.int .i64 (st.bs + n)) (.int .i64 st.at_) (.int .i64 0) (.slice none 0 0) (.slice none 0 0) (.slice none 0 0) (.slice none 0 0) (.int .i64 0) (.int .i64 0) (.int .i64 0) (.int .i64 0) (.int .i64 0) R9.out
         rw [h9]
         clear h9 lq q0 p0 q1 p1 q2 p2 q3 p3 q4 p4 q5 p5 q6 p6 q7 p7 q8 p8
         obtain ⟨r0, r1, r2, r3, r4, r5, r6, r7, r8⟩ := hB9.g9
         refine bodyPost_ret (v := .tuple #[.agg #[.slice (some ⟨w6.heap.size, 0, none⟩) 6 6, .slice (some ⟨g2, 0, none⟩) 2 e2, .slice none 0 0, .slice AD ds.length cD, .int .i64 (st.bs + n), .int .i64 st.bs, .int .i64 (st.bs + n), .int .i64 st.at_, .int .i64 0], .bool true]) (by simp [results, Tryz.results21, go_sem, r0, r1, r2, r3, r4, r5, r6, r7, r8]) rfl ⟨⟨_, true, _, HfR.out, rfl, ?_⟩, hb9 _ _ (by omega) BBz⟩
         have hRe := Hend.out
         subst hRe
         have n5 := Q5b.out.1
         have n2 := Q2b.out.1
         rw [show (SS rg).length = rg.length by simp [SS]] at n5
         rw [show (SS HM).length = HM.length by simp [SS]] at n2
         refine ⟨.slice (some ⟨w6.heap.size, 0, none⟩) 6 6, .slice (some ⟨g2, 0, none⟩) 2 e2, .slice none 0 0, .slice AD ds.length cD, ⟨some ⟨w6.heap.size, 0, none⟩, 6, some ⟨g2, 0, none⟩, e2, none, 0, AD, cD, ?_, ?_, rfl, rfl, rfl⟩, ?_, ?_, own_nilC _ _ _ _, own_more (ho9 _ _ _ _ _ _ (by omega) QDb.out) (by omega), ?_, dis_n _ _ _, ?_, dis_n _ _ _, ?_, .inl rfl⟩
         ·show (Value.slice (some ⟨w6.heap.size, 0, none⟩) 6 6) = .slice (some ⟨w6.heap.size, 0, none⟩) rg.length 6; rw [show rg.length = 6 by omega]
         ·show (.slice (some ⟨g2, 0, none⟩) 2 e2 : Value) = .slice (some ⟨g2, 0, none⟩) HM.length e2; rw [show HM.length = 2 by omega]
         ·show World.ownsRow _ _ _ _ _ rg.length _; rw [show rg.length = 6 by omega]; exact own_more (ho9 _ _ _ _ _ _ (by omega) Q5b.out) (by omega)
         ·show World.ownsRow _ _ _ _ _ HM.length _; rw [show HM.length = 2 by omega]; exact own_more (ho9 _ _ _ _ _ _ (by omega) Q2b.out) (by omega)
         ·right; right; intro h; have h2 : w6.heap.size = g2 := (by simpa [Value.ownBlock] using h); omega
         ·rcases hAo : (Value.slice AD ds.length cD).ownBlock with _ | kk
          ·exact .inr (.inl hAo)
          ·right; right; rw [hAo]; intro h; injection h with h; exact (HD.out kk hAo).2 h.symm
         ·rcases hAo : (Value.slice AD ds.length cD).ownBlock with _ | kk
          ·exact .inr (.inl hAo)
          ·right; right; rw [hAo]; intro h; injection h with h; exact (HD.out kk hAo).1 h.symm
        case true =>
         have hnm := op_small Hop.out
         obtain ⟨⟨ds', done⟩, hdo⟩ : ∃ p, doP ds ok1 nm oi = p := ⟨_, rfl⟩
         have Hdo := Lib.hid (fun W ho => opDo_falls (.slice AD ds.length cD) ds (fun e he => by have := hze.out e he; omega) (by omega) ok1 nm (by omega) oi hdo (base := w1.heap.size) W ho)
         have Hdp := Lib.hid hdo
         have hdl3 := doP_len hdo
         have Hze2 := Lib.hid (doP_sz (n := 24) hnm hze.out hdo)
         clear hdo
         go_upto_region 25 with fail
         try rw [hwb]
         clear hwb
         have c0 := hOp.get (x := .int .i64 ok1) 0 rfl
         have c1 := hOp.get (x := .string nm) 1 rfl
         have c2 := hOp.get (x := .int .i64 oi) 2 rfl
         have lo9 := hOp.lt
         go_wp2_with fail
         clear c0 c1 c2 lo9 hOp
         refine (Hdo.out _ QDb.out).mono ?_
         rintro e w10 ⟨v', rfl, own10, hb10⟩
         obtain ⟨A10, c10, hv10, _⟩ := own_vals own10
         subst hv10
         have Own10 := Lib.hid own10
         have lv := own_lo own10
         clear own10
         have Ct := Lib.hid (Cb.out.below hb10 Cb.out.lt)
         have Q5t := Lib.hid (own_below Q5b.out hb10 (Nat.le_refl _))
         have Q1t := Lib.hid (own_below Q1b.out hb10 (Nat.le_refl _))
         have Q2t := Lib.hid (own_below Q2b.out hb10 (Nat.le_refl _))
         have QDt := Lib.hid (own_below QDb.out hb10 (Nat.le_refl _))
         have belt := belb.trans (hb10.mono (show w6.heap.size ≤ wb.heap.size by omega))
         have zt := hb10.size
         cases done
         case false =>
          have Hend := Lib.hid (show (ds, st.bs + (n : Int), rg) = R by rw [← hfn.out, fallN_stop (fall_nodo (L := RG) (ds := ds) (q := st.bs + n) (k := ok1) (s := nm) (i := oi) (b := true) (by rw [Hq.out]; exact Hop.out) (by rw [Hdp.out]))])
          go_upto_region 30 with fail
          have R9 := Lib.hid (R7.out.below belt R7.out.lt)
          have BBz := Bw6.trans (belt.mono (show w.heap.size ≤ w6.heap.size from Bw6.size))
          have lR7 := R7.out.lt
          have x1 := Ct.out.get (x := .slice (some ⟨g2, 0, none⟩) 2 e2) 1 rfl
          have lc := Ct.out.lt
          obtain ⟨q0, q1, q2, q3, q4, q5, q6, q7, q8⟩ := R9.out.g9
          obtain ⟨p0, p1, p2, p3, p4, p5, p6, p7, p8⟩ := R9.out.f9
          have lq := R9.out.lt
          go_wp2
          obtain ⟨w9, h9, hB9, s9, hb9, ho9⟩ := put9 w10 (w.heap.size + 1) 28 (.slice (some ⟨w6.heap.size, 0, none⟩) 6 6) (.slice (some ⟨g2, 0, none⟩) 2 e2) (.slice none 0 0) (.slice AD ds.length cD) (.int .i64 (st.bs + n)) (.int .i64 st.bs) (.int .i64 (st.bs + n)) (.int .i64 st.at_) (.int .i64 0) (.slice none 0 0) (.slice none 0 0) (.slice none 0 0) (.slice none 0 0) (.int .i64 0) (.int .i64 0) (.int .i64 0) (.int .i64 0) (.int .i64 0) R9.out
          rw [h9]
          clear h9 lq q0 p0 q1 p1 q2 p2 q3 p3 q4 p4 q5 p5 q6 p6 q7 p7 q8 p8
          obtain ⟨r0, r1, r2, r3, r4, r5, r6, r7, r8⟩ := hB9.g9
          refine bodyPost_ret (v := .tuple #[.agg #[.slice (some ⟨w6.heap.size, 0, none⟩) 6 6, .slice (some ⟨g2, 0, none⟩) 2 e2, .slice none 0 0, .slice AD ds.length cD, .int .i64 (st.bs + n), .int .i64 st.bs, .int .i64 (st.bs + n), .int .i64 st.at_, .int .i64 0], .bool true]) (by simp [results, Tryz.results21, go_sem, r0, r1, r2, r3, r4, r5, r6, r7, r8]) rfl ⟨⟨_, true, _, HfR.out, rfl, ?_⟩, hb9 _ _ (by omega) BBz⟩
          have hRe := Hend.out
          subst hRe
          have n5 := Q5t.out.1
          have n2 := Q2t.out.1
          rw [show (SS rg).length = rg.length by simp [SS]] at n5
          rw [show (SS HM).length = HM.length by simp [SS]] at n2
          refine ⟨.slice (some ⟨w6.heap.size, 0, none⟩) 6 6, .slice (some ⟨g2, 0, none⟩) 2 e2, .slice none 0 0, .slice AD ds.length cD, ⟨some ⟨w6.heap.size, 0, none⟩, 6, some ⟨g2, 0, none⟩, e2, none, 0, AD, cD, ?_, ?_, rfl, rfl, rfl⟩, ?_, ?_, own_nilC _ _ _ _, own_more (ho9 _ _ _ _ _ _ (by omega) QDt.out) (by omega), ?_, dis_n _ _ _, ?_, dis_n _ _ _, ?_, .inl rfl⟩
          ·show (Value.slice (some ⟨w6.heap.size, 0, none⟩) 6 6) = .slice (some ⟨w6.heap.size, 0, none⟩) rg.length 6; rw [show rg.length = 6 by omega]
          ·show (.slice (some ⟨g2, 0, none⟩) 2 e2 : Value) = .slice (some ⟨g2, 0, none⟩) HM.length e2; rw [show HM.length = 2 by omega]
          ·show World.ownsRow _ _ _ _ _ rg.length _; rw [show rg.length = 6 by omega]; exact own_more (ho9 _ _ _ _ _ _ (by omega) Q5t.out) (by omega)
          ·show World.ownsRow _ _ _ _ _ HM.length _; rw [show HM.length = 2 by omega]; exact own_more (ho9 _ _ _ _ _ _ (by omega) Q2t.out) (by omega)
          ·right; right; intro h; have h2 : w6.heap.size = g2 := (by simpa [Value.ownBlock] using h); omega
          ·rcases hAo : (Value.slice AD ds.length cD).ownBlock with _ | kk
           ·exact .inr (.inl hAo)
           ·right; right; rw [hAo]; intro h; injection h with h; exact (HD.out kk hAo).2 h.symm
          ·rcases hAo : (Value.slice AD ds.length cD).ownBlock with _ | kk
           ·exact .inr (.inl hAo)
           ·right; right; rw [hAo]; intro h; injection h with h; exact (HD.out kk hAo).1 h.symm
         case true =>
          have hgo := Lib.hid (fallN_go (n := 5 - n) (rg := rg) (fall_yes (L := RG) (ds := ds) (q := st.bs + n) (by rw [Hq.out]; exact Hrc.out) (by rw [Hq.out]; exact Hop.out) Hdp.out))
          obtain ⟨k, hk, hmod, hat6⟩ := at6_get hRl q
          have hk6 : k < 6 := by omega
          have m0 : (0 : Int) ≤ q % 6 := by omega
          have m1 : q % 6 < 6 := by omega
          have m2 : (q % 6).toNat = k := by omega
          have mt : q.tmod 6 = q % 6 := Int.tmod_eq_emod_of_nonneg (by have := Hq.out; omega)
          have m3 : (0 : Int) ≤ q.tmod 6 := by omega
          have m4 : q.tmod 6 < 6 := by omega
          have m5 : (q.tmod 6).toNat = k := by omega
          clear mt
          have x0 := Ct.out.get (x := .slice (some ⟨g1, 0, none⟩) 6 e1) 0 rfl
          have lct := Ct.out.lt
          obtain ⟨zsrc, _⟩ := own_str Q1t.out hk6
          obtain ⟨sx, hsx⟩ : ∃ sx, RG.getD k ⟨#[]⟩ = sx := ⟨_, rfl⟩
          rw [hsx] at zsrc
          have Hsx := Lib.hid hsx
          clear hsx
          obtain ⟨ztgt, _⟩ := own_str Q5t.out hk6
          have f1 := own_frozen Q5t.out k
          have S5 := Lib.hid (own_set Q5t.out k (.string sx))
          have T1 := Lib.hid (Q1t.out.kept (only_sc (grown_refl w10 (some w6.heap.size)) k (.string sx)) (.inr (by simp [Value.ownBlock]; omega)))
          have T2 := Lib.hid (Q2t.out.kept (only_sc (grown_refl w10 (some w6.heap.size)) k (.string sx)) (.inr (by simp [Value.ownBlock]; omega)))
          have TD := Lib.hid (own_scN (g := w6.heap.size) Own10.out k (fun j hj => by have := lv j hj; omega) (.string sx))
          have TC := Lib.hid (Ct.out.far (p := ⟨w6.heap.size, k, none⟩) (by simp only; omega) (.string sx))
          have belz := belt.setCell (p := ⟨w6.heap.size, k, none⟩) (by simp only; omega) (.string sx)
          have hq2 := Hq.out
          go_wp2
          try rw [hq2]
          go_roundw
          case rel =>
           refine ⟨n + 1, by omega, by go_num, by first | go_num | (rw [show st.bs + ((n + 1 : Nat) : Int) = st.bs + (n : Int) + 1 by omega, Hq.out]), ds', rg.set k sx, A10, c10, rfl, ?_, Hze2.out, by omega, TC.out, own_more TD.out (by omega), (fun j hj => by have := lv j hj; omega), ?_, T1.out, T2.out, by simp; omega, (by first | exact belz | exact belz.drew)⟩
           ·show fallN _ _ _ _ _ = _
            rw [show 6 - (n + 1) = 5 - n by omega, show st.bs + ((n + 1 : Nat) : Int) = st.bs + (n : Int) + 1 by omega]
            have h1 := hgo.out
            rw [show 5 - n + 1 = 6 - n by omega, hfn.out] at h1
            rw [h1, Hq.out, m2, hat6, ← Hsx.out, getD_at RG k hk]
           ·show World.ownsRow _ _ _ _ _ _ _; rw [SS_set]; exact S5.out
          case measure => simp [intOf]; omega

end Go.Proofs.YtghgafbfpejinaaGreatDoor
