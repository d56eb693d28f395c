/- A book behind a fall: the program. -/
import Derived.Test.YtghgafbfpejinaaGreatDoorRFallM
import Derived.Test.YtghgafbfpejinaaGreatDoorRRHomeS
import Derived.Test.YtghgafbfpejinaaGreatDoorROpDo
namespace Go.Proofs.YtghgafbfpejinaaGreatDoor
open Go Go.RowKit

theorem readHome_fall (s : ByteArray) (hs : s.size ≤ 2000000) {q : Int} {L : List EntD} {ok : Bool} (h : homeP s = ((q, L), ok)) (w : World) (hT : Tab w) :
  Calls Tryz.prog 31 #[.string s] w fun e w' => ∃ v, e = .returned (.tuple #[.int .i64 q, v, .bool ok]) ∧ w'.ownsRow w.heap.size 66 4 v L.length (ES L) ∧ Below w.heap.size w w' :=
 (readHome_impl s hs w hT).mono fun _ _ ⟨⟨v, he, ho⟩, hb⟩ => by rw [h] at he ho; exact ⟨v, he, ho, hb⟩
theorem readOp_fall (s : ByteArray) (hs : s.size ≤ 2000000) {k : Int} {t : ByteArray} {i : Int} {ok : Bool} (h : opP s = ((k, t, i), ok)) (w : World) (hT : Tab w) :
  Calls Tryz.prog 33 #[.string s] w fun e w' => e = .returned (.tuple #[.agg #[.int .i64 k, .string t, .int .i64 i], .bool ok]) ∧ Below w.heap.size w w' :=
 (readOp_impl s hs w hT).mono fun _ _ hp => by rw [h] at hp; exact hp
theorem opDo_fall (v : Value) (ds : List EntD) (hz : ∀ e ∈ ds, e.s.size ≤ 2000000) (hn : ds.length ≤ 1000000) (k : Int) (s : ByteArray) (hs : s.size ≤ 2000000) (i : Int) {L : List EntD} {b : Bool} (h : doP ds k s i = (L, b)) {base : Nat} (w : World) (hT : Tab w) (ho : w.ownsRow base 66 4 v ds.length (ES ds)) :
  Calls Tryz.prog 34 #[v, .agg #[.int .i64 k, .string s, .int .i64 i]] w fun e w' => ∃ v', e = .returned (.tuple #[v', .bool b]) ∧ w'.ownsRow w.heap.size 66 4 v' L.length (ES L) ∧ Below w.heap.size w w' := by
 obtain ⟨A, c, rfl, _, _, hr⟩ := own_vals ho
 refine (opDo_impl0 A ds.length c ds hz (by omega) k s hs i w hT hr).mono fun e w' ⟨⟨L', b', v', n, hP, hl, he, ho'⟩, hb⟩ => ?_
 rw [h] at hP
 injection hP with h1 h2
 subst h1 h2 hl
 exact ⟨v', he, ho', hb⟩
/-- A text of one's own row. -/
theorem own_str {w : World} {lo g c n : Nat} {e : TypeId} {L : List ByteArray} (h : w.ownsRow lo e 1 (.slice (some ⟨g, 0, none⟩) n c) n (SS L)) {k : Nat} (hk : k < n) : w.cell? ⟨g, k, none⟩ = some (.string (L.getD k ⟨#[]⟩)) ∧ k < L.length := by
 have h1 : (SS L).length = n * 1 := h.1
 have h2 : (SS L).length = L.length := by simp [SS]
 have hc := h.cellAt k (by omega)
 rw [List.getElem?_eq_getElem (by omega)] at hc
 refine ⟨?_, by omega⟩
 rw [hc]
 simp [SS, List.getD, show k < L.length by omega]
theorem own_sc3 {w : World} {base n size : Nat} {e : TypeId} {v : Value} {xs : List Value} (h : w.ownsRow base e size v n xs) {g : Nat} (hg : ∀ k, v.ownBlock = some k → k ≠ g) (a b c : Nat) (x y z : Value) : (((w.setCell ⟨g, a, none⟩ x).setCell ⟨g, b, none⟩ y).setCell ⟨g, c, none⟩ z).ownsRow base e size v n xs :=
 own_scN (own_scN (own_scN h a hg x) b hg y) c hg z
theorem szW_mem (l : List (Int × ByteArray)) (e : Int × ByteArray) (h : e ∈ l) : e.2.size ≤ szW l := by
 induction l with
 | nil => cases h
 | cons x l ih =>
  unfold szW at ih ⊢
  simp only [List.length_cons, List.map_cons, List.sum_cons]
  rcases List.mem_cons.1 h with rfl | h
  ·omega
  ·have := ih h; omega
theorem bk_szs {B : BookD} (sm : szBk B ≤ 1048576) : SzL 1048576 B.rg ∧ SzL 1048576 B.hm ∧ (∀ e ∈ B.pd, e.2.size ≤ 1048576) ∧ SzE 1048576 B.dr := by
 unfold szBk at sm
 exact ⟨fun s hs => by have := szT_mem _ s hs; omega, fun s hs => by have := szT_mem _ s hs; omega, fun e he => by have := szW_mem _ e he; omega, fun e he => by have := szS_mem _ e he; omega⟩
theorem getD_sz {n : Nat} {L : List ByteArray} (h : SzL n L) (q : Nat) : (L.getD q ⟨#[]⟩).size ≤ n := by
 by_cases hq : q < L.length
 ·rw [getD_at L q hq]; exact h _ (List.getElem_mem hq)
 ·rw [List.getD, List.getElem?_eq_none (by omega)]; exact Nat.zero_le _

/-- The newest right home of the first so many. -/
noncomputable def hmN (L : List ByteArray) : Nat → HmD
 | 0 => ⟨-1, 0, []⟩
 | n + 1 => hmS (hmN L n) n (L.getD n ⟨#[]⟩)
/-- What a book shows of it. -/
noncomputable def hxB (B : BookD) (st : HmD) : HmD := if st.at_ < 0 then ⟨B.at_, B.bs, B.dr⟩ else st
theorem hx_no {B : BookD} {st : HmD} (h : st.at_ < 0) : hxB B st = ⟨B.at_, B.bs, B.dr⟩ := by unfold hxB; rw [if_pos h]
theorem hx_yes {B : BookD} {st : HmD} (h : ¬ st.at_ < 0) : hxB B st = st := by unfold hxB; rw [if_neg h]
/-- What is known of it: a right directory, a number that is not too great, a place. -/
def HmOk (st : HmD) : Prop := st.at_ ≤ 1 ∧ (¬ st.at_ < 0 → (0 ≤ st.bs ∧ st.bs ≤ 1000000 ∧ dirOkB st.dr = true))
theorem hmS_ok {st : HmD} {i : Int} {s : ByteArray} (h : HmOk st) (hi : i ≤ 1) : HmOk (hmS st i s) := by
 unfold hmS
 split
 ·rename_i h1
  obtain ⟨h2, h3⟩ := homeP_ok h1.1
  exact ⟨hi, fun _ => ⟨(inI_t.1 h2).1, (inI_t.1 h2).2, h3⟩⟩
 ·exact h
theorem hmN_ok (L : List ByteArray) : ∀ q, q ≤ 2 → HmOk (hmN L q)
 | 0, _ => ⟨by show (-1 : Int) ≤ 1; omega, fun h => absurd (show (-1 : Int) < 0 by omega) h⟩
 | q + 1, h => hmS_ok (hmN_ok L q (by omega)) (by omega)
theorem fall_no {B : BookD} {m : Int} (h : bookOkB B = false) : fallP B m = (zeroBk, false) := by unfold fallP; rw [if_neg (by rw [h]; simp)]
theorem fall_none {B : BookD} {m : Int} (h : bookOkB B = true) {rg hm : List ByteArray} (hw : wrmB m B.rg B.hm B.pd B.pd.length = (rg, hm)) (ha : (hmN hm 2).at_ < 0) : fallP B m = (B, false) := by
 unfold fallP; rw [if_pos h, hw, if_pos]; exact ha
theorem fall_some {B : BookD} {m : Int} (h : bookOkB B = true) {rg hm : List ByteArray} (hw : wrmB m B.rg B.hm B.pd B.pd.length = (rg, hm)) (ha : ¬ (hmN hm 2).at_ < 0) {R : List EntD × Int × List ByteArray} (hR : fallN rg 6 (hmN hm 2).dr (hmN hm 2).bs (List.replicate 6 ⟨#[]⟩) = R) :
  fallP B m = (⟨R.2.2, hm, [], R.1, R.2.1, (hmN hm 2).bs, R.2.1, (hmN hm 2).at_, 0⟩, true) := by
 subst hR
 unfold fallP; rw [if_pos h, hw, if_neg]
 ·rfl
 ·exact ha
theorem op_small {s : ByteArray} {k : Int} {t : ByteArray} {i : Int} (h : opP s = ((k, t, i), true)) : t.size ≤ 24 := by
 cases ho : opOf s with
 | none => rw [opP_none s ho] at h; cases h
 | some x =>
  rw [opP_some s ho] at h
  injection h with h1 _
  subst h1
  rcases hb : (sc2 s).2.2 with _ | _
  ·rw [opOf_yes s hb] at ho
   split at ho
   ·rename_i h2
    injection ho with ho
    injection ho with _ ho
    injection ho with ho _
    rw [← ho]; exact opOk_size h2.1
   ·cases ho
  ·rw [opOf_no s hb] at ho; cases ho
/-- The seventh record stands where the first stood. -/
theorem fall_six {L : List ByteArray} {b : Int} {n : Nat} (hn : n ≤ 6) (hj : ∀ j : Nat, 1 ≤ j → j ≤ n → recAtB L (b + j) = true) (h : recAtB L (b + n + 1) = true) : n < 6 := by
 by_cases h6 : n = 6
 ·subst h6
  have h1 := recAt_six h
  have h2 := hj 1 (Nat.le_refl _) (by omega)
  rw [show b + ((6 : Nat) : Int) + 1 - 6 = b + ((1 : Nat) : Int) by omega] at h1
  rw [h1] at h2; cases h2
 ·omega

set_option maxRecDepth 100000 in
set_option maxHeartbeats 16000000 in
theorem fall_impl0 (v : Value) (B : BookD) (sm : szBk B ≤ 1048576) (mk : Int) (hmk : mk ≤ 9223372036854775807) (w : World) (hT : Tab w) (h : IsBook w v B) :
  Calls Tryz.prog 12 #[v, .int .i64 mk] w fun e w' => FlPost w (fallP B mk) e w' ∧ Below w.heap.size w w' := by
 obtain ⟨A1, c1, A2, c2, A3, c3, A4, c4, rfl, h⟩ := h
 have HT := Lib.hid hT
 clear hT
 have H := Lib.hid h
 clear h
 obtain ⟨W1, hW1⟩ : ∃ W, (w.alloc (.cells #[.slice A1 B.rg.length c1, .slice A2 B.hm.length c2, .slice A3 B.pd.length c3, .slice A4 B.dr.length c4, .int .i64 B.sq, .int .i64 B.bs, .int .i64 B.sf, .int .i64 B.at_, .int .i64 B.df] 28)).alloc (.cells zB_ 28) = W := ⟨_, rfl⟩
 have B1 : Below w.heap.size w W1 := by rw [← hW1]; exact belA (belA (bel0 w) _) _
 have S1 : W1.heap.size = w.heap.size + 2 := by rw [← hW1]; simp
 have V1 := Lib.hid (show Blk W1 w.heap.size 28 #[.slice A1 B.rg.length c1, .slice A2 B.hm.length c2, .slice A3 B.pd.length c3, .slice A4 B.dr.length c4, .int .i64 B.sq, .int .i64 B.bs, .int .i64 B.sf, .int .i64 B.at_, .int .i64 B.df] by rw [← hW1]; exact (Blk.new' _ _ _ _ rfl).alloc _)
 have R1 := Lib.hid (show Blk W1 (w.heap.size + 1) 28 zB_ by rw [← hW1]; exact Blk.new' _ _ _ _ (by simp))
 have HW1 := Lib.hid hW1
 clear hW1
 have Hb1 := Lib.hid (show IsBook W1 (.agg #[.slice A1 B.rg.length c1, .slice A2 B.hm.length c2, .slice A3 B.pd.length c3, .slice A4 B.dr.length c4, .int .i64 B.sq, .int .i64 B.bs, .int .i64 B.sf, .int .i64 B.at_, .int .i64 B.df]) B from ⟨_, _, _, _, _, _, _, _, rfl, H.out.next B1⟩)
 go_enter Tryz.func12, Tryz.ntmps12
 go_wp2_with fail
 rw [HW1.out]
 refine (bookOk_impl _ B sm W1 (HT.out.bl B1) Hb1.out).mono ?_
 rintro e w1 ⟨rfl, hb1⟩
 have B2 := belN B1 hb1
 have s1 := hb1.size
 have V2 := Lib.hid (V1.out.below hb1 V1.out.lt)
 have R2 := Lib.hid (R1.out.below hb1 R1.out.lt)
 have Hb2 := Lib.hid (Hb1.out.next hb1)
 clear V1 R1 Hb1
 rcases hok : bookOkB B with _ | _
 ·have Hf := Lib.hid (fall_no (m := mk) hok)
  clear hok
  obtain ⟨q0, q1, q2, q3, q4, q5, q6, q7, q8⟩ := R2.out.g9
  obtain ⟨p0, p1, p2, p3, p4, p5, p6, p7, p8⟩ := R2.out.f9
  have l2 := R2.out.lt
  go_wp2
  obtain ⟨w9, h9, hB9, s9, hb9, ho9⟩ := put9 w1 (w.heap.size + 1) 28 (.slice none 0 0) (.slice none 0 0) (.slice none 0 0) (.slice none 0 0) (.int .i64 0) (.int .i64 0) (.int .i64 0) (.int .i64 0) (.int .i64 0) (.slice none 0 0) (.slice none 0 0) (.slice none 0 0) (.slice none 0 0) (.int .i64 0) (.int .i64 0) (.int .i64 0) (.int .i64 0) (.int .i64 0) R2.out
  rw [h9]
  clear h9 l2 q0 p0 q1 p1 q2 p2 q3 p3 q4 p4 q5 p5 q6 p6 q7 p7 q8 p8
  obtain ⟨r0, r1, r2, r3, r4, r5, r6, r7, r8⟩ := hB9.g9
  refine bodyPost_ret (v := .tuple #[.agg zB_, .bool false]) (by simp [results, Tryz.results12, go_sem, r0, r1, r2, r3, r4, r5, r6, r7, r8]) rfl ⟨⟨zeroBk, false, _, Hf.out, rfl, zero_own _ _⟩, hb9 _ _ (by omega) B2⟩
 ·have HP := Lib.hid (bk_is hok)
  have Hok := Lib.hid hok
  clear hok
  have hl := Lib.hid (bk_len sm)
  have h6 := HP.out.r
  have h2 := HP.out.h
  have hq := HP.out.q
  have hd := dir12 HP.out.d
  have Hlen := Lib.hid (show B.rg.length ≤ 100000 ∧ B.hm.length ≤ 100000 ∧ B.pd.length ≤ 100000 ∧ B.dr.length ≤ 100000 by omega)
  have H6 := Lib.hid h6
  have H2 := Lib.hid h2
  have hpn : B.pd.length ≤ 100000 := by omega
  clear h6 h2 hq hd hl
  obtain ⟨x0, x1, x2, x3, x4, x5, x6, x7, x8⟩ := V2.out.g9
  have l1 := V2.out.lt
  go_wp2_with fail
  clear l1 x0 x1 x2 x3 x4 x5 x6 x7 x8
  refine (copyBook_impl _ B Hlen.out w1 Hb2.out).mono ?_
  rintro e w2 ⟨v', rfl, hO, hb2⟩
  obtain ⟨_, _, _, _, ⟨F1, e1, F2, e2, A3', c3', A4', c4', rfl, rfl, rfl, rfl, rfl⟩, o1, o2, o3, o4, d12, d13, d14, d23, d24, d34⟩ := hO
  obtain ⟨g1, k1, he⟩ := own_form1 o1 (by have := H6.out; omega)
  simp only [Value.slice.injEq] at he
  obtain ⟨rfl, _, rfl⟩ := he
  obtain ⟨g2, k2, he⟩ := own_form1 o2 (by have := H2.out; omega)
  simp only [Value.slice.injEq] at he
  obtain ⟨rfl, _, rfl⟩ := he
  rw [H6.out] at o1 d12 d13 d14 ⊢
  rw [H2.out] at o2 d12 d23 d24 ⊢
  have B3 := belN B2 hb2
  have s2 := hb2.size
  have R3 := Lib.hid (R2.out.below hb2 R2.out.lt)
  have lr := R2.out.lt
  have V3 := Lib.hid (V2.out.below hb2 V2.out.lt)
  clear R2 V2
  have O1 := Lib.hid o1
  have O2 := Lib.hid o2
  have O3 := Lib.hid o3
  have O4 := Lib.hid o4
  have DD := Lib.hid (show _ ∧ _ ∧ _ ∧ _ ∧ _ from ⟨d12, d13, d14, d23, d24⟩)
  clear o1 o2 o3 o4 d12 d13 d14 d23 d24 d34
  go_upto_region 4 with fail
  obtain ⟨W3, hW3⟩ : ∃ W, w2.alloc (.cells #[.slice (some ⟨g1, 0, none⟩) 6 e1, .slice (some ⟨g2, 0, none⟩) 2 e2, .slice A3' B.pd.length c3', .slice A4' B.dr.length c4', .int .i64 B.sq, .int .i64 B.bs, .int .i64 B.sf, .int .i64 B.at_, .int .i64 B.df] 28) = W := ⟨_, rfl⟩
  have hb3 : Below w2.heap.size w2 W3 := by rw [← hW3]; exact belA (bel0 _) _
  have hG : Blk W3 w2.heap.size 28 #[.slice (some ⟨g1, 0, none⟩) 6 e1, .slice (some ⟨g2, 0, none⟩) 2 e2, .slice A3' B.pd.length c3', .slice A4' B.dr.length c4', .int .i64 B.sq, .int .i64 B.bs, .int .i64 B.sf, .int .i64 B.at_, .int .i64 B.df] := by rw [← hW3]; exact Blk.new' _ _ _ _ rfl
  rw [hW3]
  clear hW3
  have s3 := hb3.size
  have hB3 : Below w.heap.size w W3 := B3.trans (hb3.mono B3.size)
  have V4 := Lib.hid (V3.out.below hb3 V3.out.lt)
  have lV3 := V3.out.lt
  have R4 := Lib.hid (R3.out.below hb3 R3.out.lt)
  have s1b := B2.size
  clear V3 R3
  have hne : g1 ≠ g2 := by
   rcases DD.out.1 with h | h | h
   ·cases h
   ·cases h
   ·intro e; exact h (by rw [e]; rfl)
  have L1 := own_hi O1.out _ rfl
  have L2 := own_hi O2.out _ rfl
  have M1 := own_lo O1.out _ rfl
  have M2 := own_lo O2.out _ rfl
  have Hd4 := Lib.hid (fun k (hk : (Value.slice A4' B.dr.length c4').ownBlock = some k) => show k ≠ w2.heap.size ∧ k ≠ g1 ∧ k ≠ g2 by
   refine ⟨Nat.ne_of_lt (own_hi O4.out k hk), ?_, ?_⟩
   ·rcases DD.out.2.2.1 with h | h | h
    ·cases h
    ·rw [h] at hk; cases hk
    ·rintro rfl; exact h hk.symm
   ·rcases DD.out.2.2.2.2 with h | h | h
    ·cases h
    ·rw [h] at hk; cases hk
    ·rintro rfl; exact h hk.symm)
  have N1 := Lib.hid (own_below O1.out hb3 (Nat.le_refl _))
  have N2 := Lib.hid (own_below O2.out hb3 (Nat.le_refl _))
  have N4 := Lib.hid (own_below O4.out hb3 (Nat.le_refl _))
  clear O1 O2 O3 O4 DD
  have HG := Lib.hid hG
  clear hG
  have hsz := bk_szs sm
  have hwl := wrm_len (m := mk) (rg := B.rg) (hm := B.hm) (pd := B.pd) B.pd.length
  have hws := wrm_sz (m := mk) hsz.1 hsz.2.1 hsz.2.2.1 B.pd.length
  have hdr0 := hsz.2.2.2
  obtain ⟨⟨RG, HM⟩, hWR⟩ : ∃ p, wrmB mk B.rg B.hm B.pd B.pd.length = p := ⟨_, rfl⟩
  rw [hWR] at hwl hws
  simp only at hwl hws
  have HWR := Lib.hid hWR
  have Hfn := Lib.hid (fun ha => fall_none Hok.out hWR ha)
  have Hfs := Lib.hid (fun ha R hR => fall_some (R := R) Hok.out hWR ha hR)
  have Hwl := Lib.hid hwl
  have Hws := Lib.hid hws
  have Hdr0 := Lib.hid hdr0
  clear hsz hwl hws hWR hdr0 Hok
  have p20 : B.pd.length ≤ 20 := HP.out.q
  have Hpp := Lib.hid HP.out.p
  have Hmn := Lib.hid (hmN_ok HM)
  have x2 := V4.out.get (x := .slice A3 B.pd.length c3) 2 rfl
  have Hsq := Lib.hid (show 0 ≤ B.sq by have := inI_t.1 HP.out.b; have := HP.out.f; omega)
  clear HP sm
  go_wp2
  go_loopw [31] (fun i wr => ∃ k : Nat, k ≤ B.pd.length ∧ i = .int .i64 k ∧ Hid (Blk wr w2.heap.size 28 #[.slice (some ⟨g1, 0, none⟩) 6 e1, .slice (some ⟨g2, 0, none⟩) 2 e2, .slice A3' B.pd.length c3', .slice A4' B.dr.length c4', .int .i64 B.sq, .int .i64 B.bs, .int .i64 B.sf, .int .i64 B.at_, .int .i64 B.df]) ∧ Hid (wr.ownsRow w1.heap.size 9 1 (.slice (some ⟨g1, 0, none⟩) 6 e1) 6 (SS (wrmB mk B.rg B.hm B.pd k).1)) ∧ Hid (wr.ownsRow w1.heap.size 9 1 (.slice (some ⟨g2, 0, none⟩) 2 e2) 2 (SS (wrmB mk B.rg B.hm B.pd k).2)) ∧ Hid (wr.ownsRow w1.heap.size 66 4 (.slice A4' B.dr.length c4') B.dr.length (ES B.dr)) ∧ Below w1.heap.size W3 wr)
   (fun i _ => B.pd.length - (intOf i).toNat)
  case atStart => exact ⟨0, by omega, rfl, HG.out, N1.out, N2.out, N4.out, Below.refl _ _⟩
  case round =>
   obtain ⟨k, hk, rfl, hB, P1, P2, P4, hbel⟩ := hrel
   have Bw := hB3.trans (hbel.mono B2.size)
   have lB := hB.out.lt
   by_cases hlt : k < B.pd.length
   ·have hr := (H.out.next Bw).2.2.1
    obtain ⟨hkx, b, o, hA3, hadb, z0, z1⟩ := reads_rec hr hlt
    have q0 : (0 : Int) ≤ ↑k := by omega
    have q1 : (↑k : Int) < ↑B.pd.length := by omega
    have k20 : k < 20 := by omega
    have hpe := Lib.hid (Hpp.out _ (List.getElem_mem hkx))
    have Hon := Lib.hid (fun h => wrm_on (m := mk) (rg := B.rg) (hm := B.hm) hkx h)
    have Hoff := Lib.hid (fun h => wrm_off (m := mk) (rg := B.rg) (hm := B.hm) hkx h)
    obtain ⟨e, hee⟩ : ∃ e, B.pd[k] = e := ⟨_, rfl⟩
    rw [hee] at z0 z1 hpe
    simp only [hee] at Hon
    subst hA3
    clear hee hr
    by_cases hm0 : mk < 0
    ·have hoff := Lib.hid (Hoff.out (bit_neg hm0))
     clear Hon Hoff
     go_wp2
     go_roundw
     case rel => exact ⟨k + 1, by omega, by go_num, hB.out.alloc _, by show World.ownsRow _ _ _ _ _ _ _; rw [hoff.out]; exact P1.out.alloc _, by show World.ownsRow _ _ _ _ _ _ _; rw [hoff.out]; exact P2.out.alloc _, P4.out.alloc _, hbel.alloc (by omega) _⟩
     case measure => simp [intOf]; omega
    ·have m0 : (0 : Int) ≤ mk := by omega
     have m1 : mk ≥ 0 := m0
     by_cases hbit : bitB mk k = true
     ·have hbq := bit_one m0 hmk k20 hbit
      have hws := Lib.hid (Hon.out hbit)
      clear Hon Hoff
      go_wp2_with fail
      refine (write_impl w2.heap.size g1 e1 g2 e2 w1.heap.size _ _ _ e hpe.out _ (hB.out.alloc _) hne rfl rfl (P1.out.alloc _) (P2.out.alloc _)).mono ?_
      rintro r w7 ⟨rfl, g, hgor, hgr, p1, p2⟩
      have hGg : some w2.heap.size ≠ some g := by rcases hgor with rfl | rfl <;> (intro h; injection h with h; omega)
      have hB2 := Lib.hid ((hB.out.alloc (.cells #[.int .i64 e.1, .string e.2] 55)).grown hgr hGg)
      have k4 : (.slice A4' B.dr.length c4' : Value).ownBlock = none ∨ (.slice A4' B.dr.length c4' : Value).ownBlock ≠ some g := by
       right; intro h; have := Hd4.out g h; rcases hgor with rfl | rfl <;> omega
      have R9 := Lib.hid ((P4.out.alloc (.cells #[.int .i64 e.1, .string e.2] 55)).kept hgr k4)
      have hlg : w1.heap.size ≤ g := by rcases hgor with rfl | rfl <;> omega
      have hb7 := (hbel.alloc (by omega) (.cells #[.int .i64 e.1, .string e.2] 55)).grown hgr (by simp; omega) (fun q hq => by injection hq with hq; omega)
      have R7 := Lib.hid p1
      have R8 := Lib.hid p2
      clear p1 p2 z0 z1 hgr k4
      go_wp2
      go_roundw
      case rel =>
       refine ⟨k + 1, by omega, by go_num, hB2.out, ?_, ?_, R9.out, hb7⟩
       ·show World.ownsRow _ _ _ _ _ _ _; rw [hws.out]; exact R7.out
       ·show World.ownsRow _ _ _ _ _ _ _; rw [hws.out]; exact R8.out
      case measure => simp [intOf]; omega
     ·have hbq := bit_zero m0 hmk k20 (by simpa using hbit)
      have hoff := Lib.hid (Hoff.out (by simpa using hbit))
      clear Hon Hoff
      go_wp2
      go_roundw
      case rel => exact ⟨k + 1, by omega, by go_num, hB.out.alloc _, by show World.ownsRow _ _ _ _ _ _ _; rw [hoff.out]; exact P1.out.alloc _, by show World.ownsRow _ _ _ _ _ _ _; rw [hoff.out]; exact P2.out.alloc _, P4.out.alloc _, hbel.alloc (by omega) _⟩
      case measure => simp [intOf]; omega
   ·obtain rfl : k = B.pd.length := by omega
    have p1 := P1.out
    have p2 := P2.out
    rw [HWR.out] at p1 p2
    have Q1 := Lib.hid p1
    have Q2 := Lib.hid p2
    clear p1 p2 P1 P2 x2
    rename World => w5
    have x1 := hB.out.get (x := .slice (some ⟨g2, 0, none⟩) 2 e2) 1 rfl
    have s5 := hbel.size
    go_wp2
    go_loopw [9, 51] (fun fd i wr => ∃ q : Nat, q ≤ 2 ∧ i = .int .i64 q ∧ fd = .bool (decide (0 ≤ (hmN HM q).at_)) ∧ ∃ AD cD, Hid (Blk wr w2.heap.size 28 #[.slice (some ⟨g1, 0, none⟩) 6 e1, .slice (some ⟨g2, 0, none⟩) 2 e2, .slice A3' B.pd.length c3', .slice AD (hxB B (hmN HM q)).dr.length cD, .int .i64 B.sq, .int .i64 (hxB B (hmN HM q)).bs, .int .i64 B.sf, .int .i64 (hxB B (hmN HM q)).at_, .int .i64 B.df]) ∧ Hid (wr.ownsRow w1.heap.size 66 4 (.slice AD (hxB B (hmN HM q)).dr.length cD) (hxB B (hmN HM q)).dr.length (ES (hxB B (hmN HM q)).dr)) ∧ Hid (∀ k, (Value.slice AD (hxB B (hmN HM q)).dr.length cD).ownBlock = some k → k ≠ w2.heap.size ∧ k ≠ g1 ∧ k ≠ g2) ∧ Hid (wr.ownsRow w1.heap.size 9 1 (.slice (some ⟨g1, 0, none⟩) 6 e1) 6 (SS RG)) ∧ Hid (wr.ownsRow w1.heap.size 9 1 (.slice (some ⟨g2, 0, none⟩) 2 e2) 2 (SS HM)) ∧ Below w1.heap.size w5 wr)
     (fun _ i _ => 2 - (intOf i).toNat)
    case atStart =>
     have h0 : hxB B (hmN HM 0) = ⟨B.at_, B.bs, B.dr⟩ := hx_no (show (-1 : Int) < 0 by omega)
     refine ⟨0, by omega, rfl, rfl, A4', c4', ?_, ?_, ?_, Q1.out, Q2.out, Below.refl _ _⟩
     ·rw [h0]; exact hB.out
     ·rw [h0]; exact P4.out
     ·rw [h0]; exact Hd4.out
    case round =>
     obtain ⟨q, hq, rfl, hfd, AD, cD, hC, PD, HD, P1, P2, hbl⟩ := hrel
     have lC := hC.out.lt
     have sz6 := hbl.size
     have Bw6 := Bw.trans (hbl.mono B2.size)
     by_cases hlt : q < 2
     ·obtain ⟨zt, hqH⟩ := own_str P2.out hlt
      have q0 : (0 : Int) ≤ ↑q := by omega
      have q1 : (↑q : Int) < 2 := by omega
      have hst : hmN HM (q + 1) = hmS (hmN HM q) q (HM.getD q ⟨#[]⟩) := rfl
      have hsz := getD_sz Hws.out.2 q
      obtain ⟨s, hs⟩ : ∃ s, HM.getD q ⟨#[]⟩ = s := ⟨_, rfl⟩
      rw [hs] at zt hst hsz
      clear hs
      obtain ⟨⟨⟨sq, L⟩, ok⟩, hho⟩ : ∃ p, homeP s = p := ⟨_, rfl⟩
      have Hrd := Lib.hid (fun W hT => readHome_fall s (by omega) hho W hT)
      have Hyes := Lib.hid (fun hc => hmS_yes (st := hmN HM q) (i := (q : Int)) (s := s) hc)
      have Hno := Lib.hid (fun hc => hmS_no (st := hmN HM q) (i := (q : Int)) (s := s) hc)
      simp only [hho] at Hyes Hno
      have Hst := Lib.hid hst
      clear hho hst
      obtain ⟨st, hstq⟩ : ∃ st, hmN HM q = st := ⟨_, rfl⟩
      rw [hstq] at hfd hC PD HD Hst
      simp only [hstq] at Hyes Hno
      clear hstq
      by_cases hat : st.at_ < 0
      ·have hd : decide (0 ≤ st.at_) = false := by simp; omega
       rw [hd] at hfd
       subst hfd
       rw [hx_no hat] at hC PD HD
       simp only at hC PD HD
       cases ok
       case false =>
        go_wp2_with fail
        refine (Hrd.out _ (HT.out.bl Bw6)).mono ?_
        rintro r w7 ⟨v, rfl, own7, hb7⟩
        obtain ⟨A7, c7, hv7, _⟩ := own_vals own7
        subst hv7
        have hC7 := hC.out.below hb7 hC.out.lt
        have Own7 := Lib.hid own7
        have T1 := Lib.hid (own_below P1.out hb7 (Nat.le_refl _))
        have T2 := Lib.hid (own_below P2.out hb7 (Nat.le_refl _))
        have T4 := Lib.hid (own_below PD.out hb7 (Nat.le_refl _))
        have hb8 := hbl.trans (hb7.mono (show w1.heap.size ≤ wr.heap.size by omega))
        have lv := own_lo own7
        clear own7 zt
        have hn := Hno.out (fun hc => by cases hc.1)
        go_wp2
        go_roundw
        case rel =>
         refine ⟨q + 1, by omega, by go_num, ?_, AD, cD, ?_, ?_, ?_, T1.out, T2.out, hb8⟩
         ·rw [Hst.out, hn]; rw [hd]
         ·show Blk _ _ _ _; rw [Hst.out, hn, hx_no hat]; exact hC7
         ·show World.ownsRow _ _ _ _ _ _ _; rw [Hst.out, hn, hx_no hat]; exact T4.out
         ·show ∀ k, _; rw [Hst.out, hn, hx_no hat]; exact HD.out
        case measure => simp [intOf]; omega
       case true =>
        go_wp2_with fail
        refine (Hrd.out _ (HT.out.bl Bw6)).mono ?_
        rintro r w7 ⟨v, rfl, own7, hb7⟩
        obtain ⟨A7, c7, hv7, _⟩ := own_vals own7
        subst hv7
        have hC7 := hC.out.below hb7 hC.out.lt
        have Own7 := Lib.hid own7
        have T1 := Lib.hid (own_below P1.out hb7 (Nat.le_refl _))
        have T2 := Lib.hid (own_below P2.out hb7 (Nat.le_refl _))
        have T4 := Lib.hid (own_below PD.out hb7 (Nat.le_refl _))
        have hb8 := hbl.trans (hb7.mono (show w1.heap.size ≤ wr.heap.size by omega))
        have lv := own_lo own7
        clear own7 zt
        have hn := Hyes.out (by first | exact ⟨rfl, .inl hat⟩ | exact ⟨trivial, .inl hat⟩)
        have x7 := hC7.get (x := .int .i64 B.at_) 7 rfl
        have x5 := hC7.get (x := .int .i64 B.bs) 5 rfl
        have x3 := hC7.get (x := .slice AD B.dr.length cD) 3 rfl
        have y7 := hC7.frozen 7
        have y5 := hC7.frozen 5
        have y3 := hC7.frozen 3
        have HB := Lib.hid (((hC7.put 7 (.int .i64 (q : Int)) #[.slice (some ⟨g1, 0, none⟩) 6 e1, .slice (some ⟨g2, 0, none⟩) 2 e2, .slice A3' B.pd.length c3', .slice AD B.dr.length cD, .int .i64 B.sq, .int .i64 B.bs, .int .i64 B.sf, .int .i64 (q : Int), .int .i64 B.df] rfl).put 5 (.int .i64 sq) #[.slice (some ⟨g1, 0, none⟩) 6 e1, .slice (some ⟨g2, 0, none⟩) 2 e2, .slice A3' B.pd.length c3', .slice AD B.dr.length cD, .int .i64 B.sq, .int .i64 sq, .int .i64 B.sf, .int .i64 (q : Int), .int .i64 B.df] rfl).put 3 (.slice A7 L.length c7) #[.slice (some ⟨g1, 0, none⟩) 6 e1, .slice (some ⟨g2, 0, none⟩) 2 e2, .slice A3' B.pd.length c3', .slice A7 L.length c7, .int .i64 B.sq, .int .i64 sq, .int .i64 B.sf, .int .i64 (q : Int), .int .i64 B.df] rfl)
        have l7 := hC7.lt
        go_wp2
        go_roundw
        case rel =>
         have h0 : ¬ ((q : Int) < 0) := by omega
         refine ⟨q + 1, by omega, by go_num, ?_, A7, c7, ?_, ?_, ?_, own_sc3 T1.out (fun k hk => by have hk2 : g1 = k := (by simpa [Value.ownBlock] using hk); omega) _ _ _ _ _ _, own_sc3 T2.out (fun k hk => by have hk2 : g2 = k := (by simpa [Value.ownBlock] using hk); omega) _ _ _ _ _ _, ((hb8.setCell (p := ⟨w2.heap.size, 7, none⟩) s2 _).setCell (p := ⟨w2.heap.size, 5, none⟩) s2 _).setCell (p := ⟨w2.heap.size, 3, none⟩) s2 _⟩
         ·rw [Hst.out, hn]; simp
         ·show Blk _ _ _ _; rw [Hst.out, hn, hx_yes h0]; exact HB.out
         ·show World.ownsRow _ _ _ _ _ _ _; rw [Hst.out, hn, hx_yes h0]; exact own_sc3 (own_more Own7.out (by omega)) (fun k hk => by have := lv k hk; omega) _ _ _ _ _ _
         ·show ∀ k, _; rw [Hst.out, hn, hx_yes h0]; intro k hk; have := lv k hk; omega
        case measure => simp [intOf]; omega
      ·have hd : decide (0 ≤ st.at_) = true := by simp; omega
       rw [hd] at hfd
       subst hfd
       rw [hx_yes hat] at hC PD HD
       cases ok
       case false =>
        go_wp2_with fail
        refine (Hrd.out _ (HT.out.bl Bw6)).mono ?_
        rintro r w7 ⟨v, rfl, own7, hb7⟩
        obtain ⟨A7, c7, hv7, _⟩ := own_vals own7
        subst hv7
        have hC7 := hC.out.below hb7 hC.out.lt
        have Own7 := Lib.hid own7
        have T1 := Lib.hid (own_below P1.out hb7 (Nat.le_refl _))
        have T2 := Lib.hid (own_below P2.out hb7 (Nat.le_refl _))
        have T4 := Lib.hid (own_below PD.out hb7 (Nat.le_refl _))
        have hb8 := hbl.trans (hb7.mono (show w1.heap.size ≤ wr.heap.size by omega))
        have lv := own_lo own7
        clear own7 zt
        have hn := Hno.out (fun hc => by cases hc.1)
        go_wp2
        go_roundw
        case rel =>
         refine ⟨q + 1, by omega, by go_num, ?_, AD, cD, ?_, ?_, ?_, T1.out, T2.out, hb8⟩
         ·rw [Hst.out, hn]; rw [hd]
         ·show Blk _ _ _ _; rw [Hst.out, hn, hx_yes (st := st) (by omega)]; exact hC7
         ·show World.ownsRow _ _ _ _ _ _ _; rw [Hst.out, hn, hx_yes (st := st) (by omega)]; exact T4.out
         ·show ∀ k, _; rw [Hst.out, hn, hx_yes (st := st) (by omega)]; exact HD.out
        case measure => simp [intOf]; omega
       case true =>
        by_cases hgt : st.bs < sq
        ·go_wp2_with fail
         refine (Hrd.out _ (HT.out.bl Bw6)).mono ?_
         rintro r w7 ⟨v, rfl, own7, hb7⟩
         obtain ⟨A7, c7, hv7, _⟩ := own_vals own7
         subst hv7
         have hC7 := hC.out.below hb7 hC.out.lt
         have Own7 := Lib.hid own7
         have T1 := Lib.hid (own_below P1.out hb7 (Nat.le_refl _))
         have T2 := Lib.hid (own_below P2.out hb7 (Nat.le_refl _))
         have T4 := Lib.hid (own_below PD.out hb7 (Nat.le_refl _))
         have hb8 := hbl.trans (hb7.mono (show w1.heap.size ≤ wr.heap.size by omega))
         have lv := own_lo own7
         clear own7 zt
         have hgt2 : sq > st.bs := hgt
         have hn := Hyes.out (by first | exact ⟨rfl, .inr hgt⟩ | exact ⟨trivial, .inr hgt⟩)
         have x7 := hC7.get (x := .int .i64 st.at_) 7 rfl
         have x5 := hC7.get (x := .int .i64 st.bs) 5 rfl
         have x3 := hC7.get (x := .slice AD st.dr.length cD) 3 rfl
         have y7 := hC7.frozen 7
         have y5 := hC7.frozen 5
         have y3 := hC7.frozen 3
         have HB := Lib.hid (((hC7.put 7 (.int .i64 (q : Int)) #[.slice (some ⟨g1, 0, none⟩) 6 e1, .slice (some ⟨g2, 0, none⟩) 2 e2, .slice A3' B.pd.length c3', .slice AD st.dr.length cD, .int .i64 B.sq, .int .i64 st.bs, .int .i64 B.sf, .int .i64 (q : Int), .int .i64 B.df] rfl).put 5 (.int .i64 sq) #[.slice (some ⟨g1, 0, none⟩) 6 e1, .slice (some ⟨g2, 0, none⟩) 2 e2, .slice A3' B.pd.length c3', .slice AD st.dr.length cD, .int .i64 B.sq, .int .i64 sq, .int .i64 B.sf, .int .i64 (q : Int), .int .i64 B.df] rfl).put 3 (.slice A7 L.length c7) #[.slice (some ⟨g1, 0, none⟩) 6 e1, .slice (some ⟨g2, 0, none⟩) 2 e2, .slice A3' B.pd.length c3', .slice A7 L.length c7, .int .i64 B.sq, .int .i64 sq, .int .i64 B.sf, .int .i64 (q : Int), .int .i64 B.df] rfl)
         have l7 := hC7.lt
         go_wp2
         go_roundw
         case rel =>
          have h0 : ¬ ((q : Int) < 0) := by omega
          refine ⟨q + 1, by omega, by go_num, ?_, A7, c7, ?_, ?_, ?_, own_sc3 T1.out (fun k hk => by have hk2 : g1 = k := (by simpa [Value.ownBlock] using hk); omega) _ _ _ _ _ _, own_sc3 T2.out (fun k hk => by have hk2 : g2 = k := (by simpa [Value.ownBlock] using hk); omega) _ _ _ _ _ _, ((hb8.setCell (p := ⟨w2.heap.size, 7, none⟩) s2 _).setCell (p := ⟨w2.heap.size, 5, none⟩) s2 _).setCell (p := ⟨w2.heap.size, 3, none⟩) s2 _⟩
          ·rw [Hst.out, hn]; simp
          ·show Blk _ _ _ _; rw [Hst.out, hn, hx_yes h0]; exact HB.out
          ·show World.ownsRow _ _ _ _ _ _ _; rw [Hst.out, hn, hx_yes h0]; exact own_sc3 (own_more Own7.out (by omega)) (fun k hk => by have := lv k hk; omega) _ _ _ _ _ _
          ·show ∀ k, _; rw [Hst.out, hn, hx_yes h0]; intro k hk; have := lv k hk; omega
         case measure => simp [intOf]; omega
        ·go_wp2_with fail
         refine (Hrd.out _ (HT.out.bl Bw6)).mono ?_
         rintro r w7 ⟨v, rfl, own7, hb7⟩
         obtain ⟨A7, c7, hv7, _⟩ := own_vals own7
         subst hv7
         have hC7 := hC.out.below hb7 hC.out.lt
         have Own7 := Lib.hid own7
         have T1 := Lib.hid (own_below P1.out hb7 (Nat.le_refl _))
         have T2 := Lib.hid (own_below P2.out hb7 (Nat.le_refl _))
         have T4 := Lib.hid (own_below PD.out hb7 (Nat.le_refl _))
         have hb8 := hbl.trans (hb7.mono (show w1.heap.size ≤ wr.heap.size by omega))
         have lv := own_lo own7
         clear own7 zt
         have x5 := hC7.get (x := .int .i64 st.bs) 5 rfl
         have hgt2 : ¬ (sq > st.bs) := by omega
         have hn := Hno.out (fun hc => by rcases hc.2 with h | h <;> omega)
         go_wp2
         go_roundw
         case rel =>
          refine ⟨q + 1, by omega, by go_num, ?_, AD, cD, ?_, ?_, ?_, T1.out, T2.out, hb8⟩
          ·rw [Hst.out, hn]; rw [hd]
          ·show Blk _ _ _ _; rw [Hst.out, hn, hx_yes (st := st) (by omega)]; exact hC7
          ·show World.ownsRow _ _ _ _ _ _ _; rw [Hst.out, hn, hx_yes (st := st) (by omega)]; exact T4.out
          ·show ∀ k, _; rw [Hst.out, hn, hx_yes (st := st) (by omega)]; exact HD.out
         case measure => simp [intOf]; omega
     ·obtain rfl : q = 2 := by omega
      have V6 := Lib.hid ((V4.out.below hbel (by omega)).below hbl (by omega))
      have R6 := Lib.hid ((R4.out.below hbel (by omega)).below hbl (by omega))
      obtain ⟨st, hst⟩ : ∃ st, hmN HM 2 = st := ⟨_, rfl⟩
      have Hmk := Lib.hid (Hmn.out 2 (Nat.le_refl _))
      simp only [hst] at hfd hC PD HD Hmk Hfn Hfs
      clear hst
      rename World => w6
      by_cases hat : st.at_ < 0
      ·have hd : decide (0 ≤ st.at_) = false := by simp; omega
       rw [hd] at hfd
       subst hfd
       have Hf := Lib.hid (Hfn.out hat)
       have x0 := V6.out.get (x := .slice A1 B.rg.length c1) 0 rfl
       have x1 := V6.out.get (x := .slice A2 B.hm.length c2) 1 rfl
       have x2 := V6.out.get (x := .slice A3 B.pd.length c3) 2 rfl
       have x3 := V6.out.get (x := .slice A4 B.dr.length c4) 3 rfl
       have x4 := V6.out.get (x := .int .i64 B.sq) 4 rfl
       have x5 := V6.out.get (x := .int .i64 B.bs) 5 rfl
       have x6 := V6.out.get (x := .int .i64 B.sf) 6 rfl
       have x7 := V6.out.get (x := .int .i64 B.at_) 7 rfl
       have x8 := V6.out.get (x := .int .i64 B.df) 8 rfl
       have lv6 := V6.out.lt
       go_wp2_with fail
       clear lv6 x0 x1 x2 x3 x4 x5 x6 x7 x8
       refine (copyBook_impl (.agg #[.slice A1 B.rg.length c1, .slice A2 B.hm.length c2, .slice A3 B.pd.length c3, .slice A4 B.dr.length c4, .int .i64 B.sq, .int .i64 B.bs, .int .i64 B.sf, .int .i64 B.at_, .int .i64 B.df]) B Hlen.out w6 ⟨_, _, _, _, _, _, _, _, rfl, H.out.next Bw6⟩).mono ?_
       rintro e w8 ⟨v8, rfl, hO8, hb8⟩
       obtain ⟨_, _, _, _, ⟨F1, u1, F2, u2, F3, u3, F4, u4, rfl, rfl, rfl, rfl, rfl⟩, o1, o2, o3, o4, d12, d13, d14, d23, d24, d34⟩ := hO8
       have R8 := Lib.hid (R6.out.below hb8 R6.out.lt)
       have s8 := hb8.size
       have l6 := R6.out.lt
       have B8 := belN Bw6 hb8
       obtain ⟨q0, q1, q2, q3, q4, q5, q6, q7, q8⟩ := R8.out.g9
       obtain ⟨p0, p1, p2, p3, p4, p5, p6, p7, p8⟩ := R8.out.f9
       have lq := R8.out.lt
       go_wp2
       obtain ⟨w9, h9, hB9, s9, hb9, ho9⟩ := put9 w8 (w.heap.size + 1) 28 (.slice F1 B.rg.length u1) (.slice F2 B.hm.length u2) (.slice F3 B.pd.length u3) (.slice F4 B.dr.length u4) (.int .i64 B.sq) (.int .i64 B.bs) (.int .i64 B.sf) (.int .i64 B.at_) (.int .i64 B.df) (.slice none 0 0) (.slice none 0 0) (.slice none 0 0) (.slice none 0 0) (.int .i64 0) (.int .i64 0) (.int .i64 0) (.int .i64 0) (.int .i64 0) R8.out
       rw [h9]
       clear h9 lq q0 p0 q1 p1 q2 p2 q3 p3 q4 p4 q5 p5 q6 p6 q7 p7 q8 p8
       obtain ⟨r0, r1, r2, r3, r4, r5, r6, r7, r8⟩ := hB9.g9
       refine bodyPost_ret (v := .tuple #[.agg #[.slice F1 B.rg.length u1, .slice F2 B.hm.length u2, .slice F3 B.pd.length u3, .slice F4 B.dr.length u4, .int .i64 B.sq, .int .i64 B.bs, .int .i64 B.sf, .int .i64 B.at_, .int .i64 B.df], .bool false]) (by simp [results, Tryz.results12, go_sem, r0, r1, r2, r3, r4, r5, r6, r7, r8]) rfl ⟨⟨B, false, _, Hf.out, rfl, ?_⟩, hb9 _ _ (by omega) B8⟩
       exact ⟨_, _, _, _, ⟨F1, u1, F2, u2, F3, u3, F4, u4, rfl, rfl, rfl, rfl, rfl⟩, own_more (ho9 _ _ _ _ _ _ (by omega) o1) (by omega), own_more (ho9 _ _ _ _ _ _ (by omega) o2) (by omega), own_more (ho9 _ _ _ _ _ _ (by omega) o3) (by omega), own_more (ho9 _ _ _ _ _ _ (by omega) o4) (by omega), d12, d13, d14, d23, d24, d34⟩
      ·have hd : decide (0 ≤ st.at_) = true := by simp; omega
       rw [hd] at hfd
       subst hfd
       rw [hx_yes hat] at hC PD HD
       obtain ⟨R, hR⟩ : ∃ R, fallN RG 6 st.dr st.bs (List.replicate 6 ⟨#[]⟩) = R := ⟨_, rfl⟩
       have HfR := Lib.hid (Hfs.out (by omega) R hR)
       obtain ⟨hb0, hb1, hdk⟩ := Hmk.out.2 (by omega)
       have hat1 := Hmk.out.1
       obtain ⟨hde, hdl⟩ := dirOk_sz hdk
       have Hde := Lib.hid hde
       have HR := Lib.hid hR
       clear hR hde hdk Hfn Hfs Hmk Hmn
       have HRG6 := Lib.hid (show RG.length = 6 by have := Hwl.out.1; have := H6.out; omega)
       have HRGs := Lib.hid Hws.out.1
       have hmkS : ∀ W : World, (Instr.makeSlice 24 (.int .i64 6) (.int .i64 6)).run Tryz.prog W = .ok (.slice (some ⟨W.heap.size, 0, none⟩) 6 6) (W.alloc (.cells #[.string ⟨#[]⟩, .string ⟨#[]⟩, .string ⟨#[]⟩, .string ⟨#[]⟩, .string ⟨#[]⟩, .string ⟨#[]⟩] 9)) :=
        fun W => by
         have h := make_any (P := Tryz.prog) 24 9 (.string ⟨#[]⟩) 1 16 Tryz.underlying24 (by kernel_rfl) 6 (by omega) (by omega) W
         rw [show madeCells (Value.string ⟨#[]⟩).cells (6 * 1) = #[.string ⟨#[]⟩, .string ⟨#[]⟩, .string ⟨#[]⟩, .string ⟨#[]⟩, .string ⟨#[]⟩, .string ⟨#[]⟩] by kernel_rfl] at h
         exact h
       have lC := hC.out.lt
       have x5 := hC.out.get (x := .int .i64 st.bs) 5 rfl
       have x4 := hC.out.get (x := .int .i64 B.sq) 4 rfl
       have y4 := hC.out.frozen 4
       have own5 := World.ownsRow_lit (e := 9) (size := 1) (w6.setCell ⟨w2.heap.size, 4, none⟩ (.int .i64 st.bs)) #[.string ⟨#[]⟩, .string ⟨#[]⟩, .string ⟨#[]⟩, .string ⟨#[]⟩, .string ⟨#[]⟩, .string ⟨#[]⟩] 6 (Nat.le_refl _) (by unfold maxLen; omega) rfl
       rw [sz_sc] at own5
       have HC8 := Lib.hid ((hC.out.put 4 (.int .i64 st.bs) #[.slice (some ⟨g1, 0, none⟩) 6 e1, .slice (some ⟨g2, 0, none⟩) 2 e2, .slice A3' B.pd.length c3', .slice AD st.dr.length cD, .int .i64 st.bs, .int .i64 st.bs, .int .i64 B.sf, .int .i64 st.at_, .int .i64 B.df] rfl).alloc (.cells #[.string ⟨#[]⟩, .string ⟨#[]⟩, .string ⟨#[]⟩, .string ⟨#[]⟩, .string ⟨#[]⟩, .string ⟨#[]⟩] 9))
       have K5 := Lib.hid (own_more own5 (show w1.heap.size ≤ w6.heap.size by omega))
       have K1 := Lib.hid ((own_scN (g := w2.heap.size) P1.out 4 (fun k hk => by have hk2 : g1 = k := (by simpa [Value.ownBlock] using hk); omega) (.int .i64 st.bs)).alloc (.cells #[.string ⟨#[]⟩, .string ⟨#[]⟩, .string ⟨#[]⟩, .string ⟨#[]⟩, .string ⟨#[]⟩, .string ⟨#[]⟩] 9))
       have K2 := Lib.hid ((own_scN (g := w2.heap.size) P2.out 4 (fun k hk => by have hk2 : g2 = k := (by simpa [Value.ownBlock] using hk); omega) (.int .i64 st.bs)).alloc (.cells #[.string ⟨#[]⟩, .string ⟨#[]⟩, .string ⟨#[]⟩, .string ⟨#[]⟩, .string ⟨#[]⟩, .string ⟨#[]⟩] 9))
       have KD := Lib.hid ((own_scN (g := w2.heap.size) PD.out 4 (fun k hk => (HD.out k hk).1) (.int .i64 st.bs)).alloc (.cells #[.string ⟨#[]⟩, .string ⟨#[]⟩, .string ⟨#[]⟩, .string ⟨#[]⟩, .string ⟨#[]⟩, .string ⟨#[]⟩] 9))
       have HD6 := Lib.hid (fun k (hk : (Value.slice AD st.dr.length cD).ownBlock = some k) => show k ≠ w2.heap.size ∧ k ≠ g1 ∧ k ≠ g2 ∧ k ≠ w6.heap.size from ⟨(HD.out k hk).1, (HD.out k hk).2.1, (HD.out k hk).2.2, Nat.ne_of_lt (own_hi PD.out k hk)⟩)
       have hbz : Below w1.heap.size w6 ((w6.setCell ⟨w2.heap.size, 4, none⟩ (.int .i64 st.bs)).alloc (.cells #[.string ⟨#[]⟩, .string ⟨#[]⟩, .string ⟨#[]⟩, .string ⟨#[]⟩, .string ⟨#[]⟩, .string ⟨#[]⟩] 9)) := ((Below.refl w1.heap.size w6).setCell (p := ⟨w2.heap.size, 4, none⟩) s2 _).alloc (by rw [sz_sc]; omega) _
       have K6 := Lib.hid (show w6.heap.size < ((w6.setCell ⟨w2.heap.size, 4, none⟩ (.int .i64 st.bs)).alloc (.cells #[.string ⟨#[]⟩, .string ⟨#[]⟩, .string ⟨#[]⟩, .string ⟨#[]⟩, .string ⟨#[]⟩, .string ⟨#[]⟩] 9)).heap.size by simp)
       clear own5
       go_wp2
       go_loopw [] (fun wr => ∃ n : Nat, n ≤ 6 ∧ ∃ ds rg AD cD, Hid (fallN RG (6 - n) ds (st.bs + n) rg = R) ∧ Hid (∀ j : Nat, 1 ≤ j → j ≤ n → recAtB RG (st.bs + j) = true) ∧ Hid (SzE 24 ds) ∧ ds.length ≤ 12 + n ∧ Hid (Blk wr w2.heap.size 28 #[.slice (some ⟨g1, 0, none⟩) 6 e1, .slice (some ⟨g2, 0, none⟩) 2 e2, .slice A3' B.pd.length c3', .slice AD ds.length cD, .int .i64 (st.bs + n), .int .i64 st.bs, .int .i64 B.sf, .int .i64 st.at_, .int .i64 B.df]) ∧ Hid (wr.ownsRow w1.heap.size 66 4 (.slice AD ds.length cD) ds.length (ES ds)) ∧ Hid (∀ k, (Value.slice AD ds.length cD).ownBlock = some k → k ≠ w2.heap.size ∧ k ≠ g1 ∧ k ≠ g2 ∧ k ≠ w6.heap.size) ∧ Hid (wr.ownsRow w1.heap.size 9 1 (.slice (some ⟨w6.heap.size, 0, none⟩) 6 6) 6 (SS rg)) ∧ Hid (wr.ownsRow w1.heap.size 9 1 (.slice (some ⟨g1, 0, none⟩) 6 e1) 6 (SS RG)) ∧ Hid (wr.ownsRow w1.heap.size 9 1 (.slice (some ⟨g2, 0, none⟩) 2 e2) 2 (SS HM)) ∧ w6.heap.size < wr.heap.size ∧ Below w1.heap.size w6 wr)
        (fun wr => (6 + st.bs - intOf ((wr.cell? ⟨w2.heap.size, 4, none⟩).getD (.int .i64 0))).toNat)
       case atStart =>
        refine ⟨0, by omega, st.dr, List.replicate 6 ⟨#[]⟩, AD, cD, ?_, fun j h1 h2 => by omega, Hde.out, by omega, ?_, KD.out, HD6.out, K5.out, K1.out, K2.out, K6.out, hbz⟩
        ·rw [show st.bs + ((0 : Nat) : Int) = st.bs by omega]; exact HR.out
        ·rw [show st.bs + ((0 : Nat) : Int) = st.bs by omega]; exact HC8.out
       case round =>
        clear HC8 K5 K1 K2 KD HD6 K6 hbz x5 x4 y4 hC PD HD P1 P2 lC
        obtain ⟨n, hn6, ds, rg, AD, cD, hfn, hrec, hze, hdl2, hC, PD, HD, P5, P1, P2, hs6, hbr⟩ := hrel
        have lC := hC.out.lt
        have Bwr := Bw6.trans (hbr.mono B2.size)
        have x0 := hC.out.get (x := .slice (some ⟨g1, 0, none⟩) 6 e1) 0 rfl
        have x4 := hC.out.get (x := .int .i64 (st.bs + n)) 4 rfl
        have hRl := HRG6.out
        obtain ⟨q, hq⟩ : ∃ q : Int, st.bs + n + 1 = q := ⟨_, rfl⟩
        have w1' : IntKind.i64.wrap (st.bs + n + 1) = st.bs + n + 1 := by rw [IntKind.wrap_i64]; omega
        have Hra := Lib.hid (fun W hr => recAt_impl (some ⟨g1, 0, none⟩) e1 RG q hRl (by omega) (fun s hs => Nat.le_trans (HRGs.out s hs) (by omega)) W hr)
        have htz := txt_sz HRGs.out hRl q
        have Hq := Lib.hid hq
        go_wp2_with fail
        try rw [hq]
        clear hq
        refine (Hra.out _ (own_rd P1.out)).mono ?_
        rintro e w8 ⟨hpost, hb8⟩
        cases hrc : recAtB RG q
        ·obtain ⟨r, t, rfl, hts⟩ := hpost.no2 hrc
         clear hpost
         have C8 := Lib.hid (hC.out.below hb8 hC.out.lt)
         have Q58 := Lib.hid (own_below P5.out hb8 (Nat.le_refl _))
         have Q18 := Lib.hid (own_below P1.out hb8 (Nat.le_refl _))
         have Q28 := Lib.hid (own_below P2.out hb8 (Nat.le_refl _))
         have QD8 := Lib.hid (own_below PD.out hb8 (Nat.le_refl _))
         clear x0 x4
         have bel8 := hbr.trans (hb8.mono (show w1.heap.size ≤ wr.heap.size by omega))
         have z8 := hb8.size
         obtain ⟨⟨⟨ok1, nm, oi⟩, ok⟩, hop⟩ : ∃ p, opP t = p := ⟨_, rfl⟩
         have Hend := Lib.hid (show (ds, st.bs + (n : Int), rg) = R by rw [← hfn.out, fallN_stop (fall_norec (by rw [Hq.out]; exact hrc))])
         have Hro := Lib.hid (fun W hT => readOp_fall t (by omega) hop W hT)
         clear hop hrc hts
         go_wp2_with fail
         refine (Hro.out _ (HT.out.bl (Bw6.trans (((bel8.alloc (by omega) (.cells #[.int .i64 r, .string t] 60))).mono B2.size)))).mono ?_
         rintro e w9 ⟨rfl, hb9⟩
         obtain ⟨wb, hwb⟩ : ∃ W, w9.alloc (.cells #[.int .i64 ok1, .string nm, .int .i64 oi] 32) = W := ⟨_, rfl⟩
         have hbb : Below w8.heap.size w8 wb := by rw [← hwb]; exact belA (belN (belA (bel0 w8) _) hb9) _
         have hOp : Blk wb w9.heap.size 32 #[.int .i64 ok1, .string nm, .int .i64 oi] := by rw [← hwb]; exact Blk.new' _ _ _ _ rfl
         have Cb := Lib.hid (C8.out.below hbb C8.out.lt)
         have Q5b := Lib.hid (own_below Q58.out hbb (Nat.le_refl _))
         have Q1b := Lib.hid (own_below Q18.out hbb (Nat.le_refl _))
         have Q2b := Lib.hid (own_below Q28.out hbb (Nat.le_refl _))
         have QDb := Lib.hid (own_below QD8.out hbb (Nat.le_refl _))
         have belb := bel8.trans (hbb.mono (show w1.heap.size ≤ w8.heap.size by omega))
         have zb := hbb.size
         have BB := Bw6.trans (belb.mono B2.size)
         go_upto_region 33 with fail
         try rw [hwb]
         clear hwb hOp
         have a0 := Cb.out.get (x := .slice (some ⟨g1, 0, none⟩) 6 e1) 0 rfl
         have a2 := Cb.out.get (x := .slice A3' B.pd.length c3') 2 rfl
         have a4 := Cb.out.get (x := .int .i64 (st.bs + n)) 4 rfl
         have a6 := Cb.out.get (x := .int .i64 B.sf) 6 rfl
         have a8 := Cb.out.get (x := .int .i64 B.df) 8 rfl
         have y0 := Cb.out.frozen 0
         have y2 := Cb.out.frozen 2
         have y6 := Cb.out.frozen 6
         have y8 := Cb.out.frozen 8
         have lc := Cb.out.lt
         have HE := Lib.hid ((((Cb.out.put 0 (.slice (some ⟨w6.heap.size, 0, none⟩) 6 6) #[.slice (some ⟨w6.heap.size, 0, none⟩) 6 6, .slice (some ⟨g2, 0, none⟩) 2 e2, .slice A3' B.pd.length c3', .slice AD ds.length cD, .int .i64 (st.bs + n), .int .i64 st.bs, .int .i64 B.sf, .int .i64 st.at_, .int .i64 B.df] rfl).put 6 (.int .i64 (st.bs + n)) #[.slice (some ⟨w6.heap.size, 0, none⟩) 6 6, .slice (some ⟨g2, 0, none⟩) 2 e2, .slice A3' B.pd.length c3', .slice AD ds.length cD, .int .i64 (st.bs + n), .int .i64 st.bs, .int .i64 (st.bs + n), .int .i64 st.at_, .int .i64 B.df] rfl).put 2 (.slice none 0 0) #[.slice (some ⟨w6.heap.size, 0, none⟩) 6 6, .slice (some ⟨g2, 0, none⟩) 2 e2, .slice none 0 0, .slice AD ds.length cD, .int .i64 (st.bs + n), .int .i64 st.bs, .int .i64 (st.bs + n), .int .i64 st.at_, .int .i64 B.df] rfl).put 8 (.int .i64 0) #[.slice (some ⟨w6.heap.size, 0, none⟩) 6 6, .slice (some ⟨g2, 0, none⟩) 2 e2, .slice none 0 0, .slice AD ds.length cD, .int .i64 (st.bs + n), .int .i64 st.bs, .int .i64 (st.bs + n), .int .i64 st.at_, .int .i64 0] rfl)
         obtain ⟨wz, hwz⟩ : ∃ W, ((((wb.setCell ⟨w2.heap.size, 0, none⟩ (.slice (some ⟨w6.heap.size, 0, none⟩) 6 6)).setCell ⟨w2.heap.size, 6, none⟩ (.int .i64 (st.bs + n))).setCell ⟨w2.heap.size, 2, none⟩ (.slice none 0 0)).setCell ⟨w2.heap.size, 8, none⟩ (.int .i64 0)) = W := ⟨_, rfl⟩
         have hbz : Below w1.heap.size w6 wz := by rw [← hwz]; exact (((belb.setCell (p := ⟨w2.heap.size, 0, none⟩) s2 _).setCell (p := ⟨w2.heap.size, 6, none⟩) s2 _).setCell (p := ⟨w2.heap.size, 2, none⟩) s2 _).setCell (p := ⟨w2.heap.size, 8, none⟩) s2 _
         have hwS : wz.heap.size = wb.heap.size := by rw [← hwz]; simp
         have hO : ∀ i, i ≠ w2.heap.size → wz.heap[i]? = wb.heap[i]? := fun i hi => by rw [← hwz]; exact (Below.heap_setCell _ ⟨w2.heap.size, 8, none⟩ _ i hi).trans ((Below.heap_setCell _ ⟨w2.heap.size, 2, none⟩ _ i hi).trans ((Below.heap_setCell _ ⟨w2.heap.size, 6, none⟩ _ i hi).trans (Below.heap_setCell _ ⟨w2.heap.size, 0, none⟩ _ i hi)))
         have E5 := Lib.hid (own_eqN Q5b.out (fun j hj => hO j (by have hj2 : w6.heap.size = j := (by simpa [Value.ownBlock] using hj); omega)))
         have E2 := Lib.hid (own_eqN Q2b.out (fun j hj => hO j (by have hj2 : g2 = j := (by simpa [Value.ownBlock] using hj); omega)))
         have ED := Lib.hid (own_eqN QDb.out (fun j hj => hO j (HD.out j hj).1))
         have HE2 : Blk wz w2.heap.size 28 #[.slice (some ⟨w6.heap.size, 0, none⟩) 6 6, .slice (some ⟨g2, 0, none⟩) 2 e2, .slice none 0 0, .slice AD ds.length cD, .int .i64 (st.bs + n), .int .i64 st.bs, .int .i64 (st.bs + n), .int .i64 st.at_, .int .i64 0] := by rw [← hwz]; exact HE.out
         have HEz := Lib.hid HE2
         clear HE HE2 hO
         have RZ := Lib.hid (R6.out.below (hbz) (by omega))
         go_upto_region 37 with fail
         try rw [hwz]
         clear hwz lc a0 a2 a4 a6 a8 y0 y2 y6 y8
         have b0 := HEz.out.get (x := .slice (some ⟨w6.heap.size, 0, none⟩) 6 6) 0 rfl
         have b1 := HEz.out.get (x := .slice (some ⟨g2, 0, none⟩) 2 e2) 1 rfl
         have b2 := HEz.out.get (x := .slice none 0 0) 2 rfl
         have b3 := HEz.out.get (x := .slice AD ds.length cD) 3 rfl
         have b4 := HEz.out.get (x := .int .i64 (st.bs + n)) 4 rfl
         have b5 := HEz.out.get (x := .int .i64 st.bs) 5 rfl
         have b6 := HEz.out.get (x := .int .i64 (st.bs + n)) 6 rfl
         have b7 := HEz.out.get (x := .int .i64 st.at_) 7 rfl
         have b8 := HEz.out.get (x := .int .i64 0) 8 rfl
         have lb := HEz.out.lt
         obtain ⟨q0, q1, q2, q3, q4, q5, q6, q7, q8⟩ := RZ.out.g9
         obtain ⟨p0, p1, p2, p3, p4, p5, p6, p7, p8⟩ := RZ.out.f9
         have lq := RZ.out.lt
         go_wp2
         obtain ⟨w9, h9, hB9, s9, hb9, ho9⟩ := put9 wz (w.heap.size + 1) 28 (.slice (some ⟨w6.heap.size, 0, none⟩) 6 6) (.slice (some ⟨g2, 0, none⟩) 2 e2) (.slice none 0 0) (.slice AD ds.length cD) (.int .i64 (st.bs + n)) (.int .i64 st.bs) (.int .i64 (st.bs + n)) (.int .i64 st.at_) (.int .i64 0) (.slice none 0 0) (.slice none 0 0) (.slice none 0 0) (.slice none 0 0) (.int .i64 0) (.int .i64 0) (.int .i64 0) (.int .i64 0) (.int .i64 0) RZ.out
         rw [h9]
         clear h9 lq lb b0 b1 b2 b3 b4 b5 b6 b7 b8 q0 p0 q1 p1 q2 p2 q3 p3 q4 p4 q5 p5 q6 p6 q7 p7 q8 p8
         obtain ⟨r0, r1, r2, r3, r4, r5, r6, r7, r8⟩ := hB9.g9
         refine bodyPost_ret (v := .tuple #[.agg #[.slice (some ⟨w6.heap.size, 0, none⟩) 6 6, .slice (some ⟨g2, 0, none⟩) 2 e2, .slice none 0 0, .slice AD ds.length cD, .int .i64 (st.bs + n), .int .i64 st.bs, .int .i64 (st.bs + n), .int .i64 st.at_, .int .i64 0], .bool true]) (by simp [results, Tryz.results12, go_sem, r0, r1, r2, r3, r4, r5, r6, r7, r8]) rfl ⟨⟨_, true, _, HfR.out, rfl, ?_⟩, hb9 _ _ (by omega) (Bw6.trans (hbz.mono B2.size))⟩
         have hRe := Hend.out
         subst hRe
         have n5 := E5.out.1
         have n2 := E2.out.1
         rw [show (SS rg).length = rg.length by simp [SS]] at n5
         rw [show (SS HM).length = HM.length by simp [SS]] at n2
         refine ⟨.slice (some ⟨w6.heap.size, 0, none⟩) 6 6, .slice (some ⟨g2, 0, none⟩) 2 e2, .slice none 0 0, .slice AD ds.length cD, ⟨some ⟨w6.heap.size, 0, none⟩, 6, some ⟨g2, 0, none⟩, e2, none, 0, AD, cD, ?_, ?_, rfl, rfl, rfl⟩, ?_, ?_, own_nilC _ _ _ _, own_more (ho9 _ _ _ _ _ _ (by omega) ED.out) (by omega), ?_, dis_n _ _ _, ?_, dis_n _ _ _, ?_, .inl rfl⟩
         ·show (Value.slice (some ⟨w6.heap.size, 0, none⟩) 6 6) = .slice (some ⟨w6.heap.size, 0, none⟩) rg.length 6; rw [show rg.length = 6 by omega]
         ·show (.slice (some ⟨g2, 0, none⟩) 2 e2 : Value) = .slice (some ⟨g2, 0, none⟩) HM.length e2; rw [show HM.length = 2 by omega]
         ·show World.ownsRow _ _ _ _ _ rg.length _; rw [show rg.length = 6 by omega]; exact own_more (ho9 _ _ _ _ _ _ (by omega) E5.out) (by omega)
         ·show World.ownsRow _ _ _ _ _ HM.length _; rw [show HM.length = 2 by omega]; exact own_more (ho9 _ _ _ _ _ _ (by omega) E2.out) (by omega)
         ·right; right; intro h; have h2 : w6.heap.size = g2 := (by simpa [Value.ownBlock] using h); omega
         ·rcases hAo : (Value.slice AD ds.length cD).ownBlock with _ | kk
          ·exact .inr (.inl hAo)
          ·right; right; rw [hAo]; intro h; injection h with h; exact (HD.out kk hAo).2.2.2 h.symm
         ·rcases hAo : (Value.slice AD ds.length cD).ownBlock with _ | kk
          ·exact .inr (.inl hAo)
          ·right; right; rw [hAo]; intro h; injection h with h; exact (HD.out kk hAo).2.2.1 h.symm
        ·obtain rfl := hpost.yes hrc
         clear hpost
         have hn5 : n < 6 := fall_six hn6 hrec.out (by rw [Hq.out]; exact hrc)
         have C8 := Lib.hid (hC.out.below hb8 hC.out.lt)
         have Q58 := Lib.hid (own_below P5.out hb8 (Nat.le_refl _))
         have Q18 := Lib.hid (own_below P1.out hb8 (Nat.le_refl _))
         have Q28 := Lib.hid (own_below P2.out hb8 (Nat.le_refl _))
         have QD8 := Lib.hid (own_below PD.out hb8 (Nat.le_refl _))
         clear x0 x4
         have bel8 := hbr.trans (hb8.mono (show w1.heap.size ≤ wr.heap.size by omega))
         have z8 := hb8.size
         obtain ⟨t, ht⟩ : ∃ t, txtAt RG q = t := ⟨_, rfl⟩
         rw [ht] at htz ⊢
         obtain ⟨⟨⟨ok1, nm, oi⟩, ok⟩, hop⟩ : ∃ p, opP t = p := ⟨_, rfl⟩
         have Hro := Lib.hid (fun W hT => readOp_fall t (by omega) hop W hT)
         have Hop := Lib.hid (show opP (txtAt RG q) = ((ok1, nm, oi), ok) by rw [ht]; exact hop)
         have Hrc := Lib.hid hrc
         clear hop hrc ht
         go_wp2_with fail
         refine (Hro.out _ (HT.out.bl (Bw6.trans (((bel8.alloc (by omega) (.cells #[.int .i64 q, .string t] 60))).mono B2.size)))).mono ?_
         rintro e w9 ⟨rfl, hb9⟩
         obtain ⟨wb, hwb⟩ : ∃ W, w9.alloc (.cells #[.int .i64 ok1, .string nm, .int .i64 oi] 32) = W := ⟨_, rfl⟩
         have hbb : Below w8.heap.size w8 wb := by rw [← hwb]; exact belA (belN (belA (bel0 w8) _) hb9) _
         have hOp : Blk wb w9.heap.size 32 #[.int .i64 ok1, .string nm, .int .i64 oi] := by rw [← hwb]; exact Blk.new' _ _ _ _ rfl
         have Cb := Lib.hid (C8.out.below hbb C8.out.lt)
         have Q5b := Lib.hid (own_below Q58.out hbb (Nat.le_refl _))
         have Q1b := Lib.hid (own_below Q18.out hbb (Nat.le_refl _))
         have Q2b := Lib.hid (own_below Q28.out hbb (Nat.le_refl _))
         have QDb := Lib.hid (own_below QD8.out hbb (Nat.le_refl _))
         have belb := bel8.trans (hbb.mono (show w1.heap.size ≤ w8.heap.size by omega))
         have zb := hbb.size
         have BB := Bw6.trans (belb.mono B2.size)
         cases ok
         case false =>
          have Hend := Lib.hid (show (ds, st.bs + (n : Int), rg) = R by rw [← hfn.out, fallN_stop (fall_noop (by rw [Hq.out, Hop.out]))])
          go_upto_region 33 with fail
          try rw [hwb]
          clear hwb hOp
          have a0 := Cb.out.get (x := .slice (some ⟨g1, 0, none⟩) 6 e1) 0 rfl
          have a2 := Cb.out.get (x := .slice A3' B.pd.length c3') 2 rfl
          have a4 := Cb.out.get (x := .int .i64 (st.bs + n)) 4 rfl
          have a6 := Cb.out.get (x := .int .i64 B.sf) 6 rfl
          have a8 := Cb.out.get (x := .int .i64 B.df) 8 rfl
          have y0 := Cb.out.frozen 0
          have y2 := Cb.out.frozen 2
          have y6 := Cb.out.frozen 6
          have y8 := Cb.out.frozen 8
          have lc := Cb.out.lt
          have HE := Lib.hid ((((Cb.out.put 0 (.slice (some ⟨w6.heap.size, 0, none⟩) 6 6) #[.slice (some ⟨w6.heap.size, 0, none⟩) 6 6, .slice (some ⟨g2, 0, none⟩) 2 e2, .slice A3' B.pd.length c3', .slice AD ds.length cD, .int .i64 (st.bs + n), .int .i64 st.bs, .int .i64 B.sf, .int .i64 st.at_, .int .i64 B.df] rfl).put 6 (.int .i64 (st.bs + n)) #[.slice (some ⟨w6.heap.size, 0, none⟩) 6 6, .slice (some ⟨g2, 0, none⟩) 2 e2, .slice A3' B.pd.length c3', .slice AD ds.length cD, .int .i64 (st.bs + n), .int .i64 st.bs, .int .i64 (st.bs + n), .int .i64 st.at_, .int .i64 B.df] rfl).put 2 (.slice none 0 0) #[.slice (some ⟨w6.heap.size, 0, none⟩) 6 6, .slice (some ⟨g2, 0, none⟩) 2 e2, .slice none 0 0, .slice AD ds.length cD, .int .i64 (st.bs + n), .int .i64 st.bs, .int .i64 (st.bs + n), .int .i64 st.at_, .int .i64 B.df] rfl).put 8 (.int .i64 0) #[.slice (some ⟨w6.heap.size, 0, none⟩) 6 6, .slice (some ⟨g2, 0, none⟩) 2 e2, .slice none 0 0, .slice AD ds.length cD, .int .i64 (st.bs + n), .int .i64 st.bs, .int .i64 (st.bs + n), .int .i64 st.at_, .int .i64 0] rfl)
          obtain ⟨wz, hwz⟩ : ∃ W, ((((wb.setCell ⟨w2.heap.size, 0, none⟩ (.slice (some ⟨w6.heap.size, 0, none⟩) 6 6)).setCell ⟨w2.heap.size, 6, none⟩ (.int .i64 (st.bs + n))).setCell ⟨w2.heap.size, 2, none⟩ (.slice none 0 0)).setCell ⟨w2.heap.size, 8, none⟩ (.int .i64 0)) = W := ⟨_, rfl⟩
          have hbz : Below w1.heap.size w6 wz := by rw [← hwz]; exact (((belb.setCell (p := ⟨w2.heap.size, 0, none⟩) s2 _).setCell (p := ⟨w2.heap.size, 6, none⟩) s2 _).setCell (p := ⟨w2.heap.size, 2, none⟩) s2 _).setCell (p := ⟨w2.heap.size, 8, none⟩) s2 _
          have hwS : wz.heap.size = wb.heap.size := by rw [← hwz]; simp
          have hO : ∀ i, i ≠ w2.heap.size → wz.heap[i]? = wb.heap[i]? := fun i hi => by rw [← hwz]; exact (Below.heap_setCell _ ⟨w2.heap.size, 8, none⟩ _ i hi).trans ((Below.heap_setCell _ ⟨w2.heap.size, 2, none⟩ _ i hi).trans ((Below.heap_setCell _ ⟨w2.heap.size, 6, none⟩ _ i hi).trans (Below.heap_setCell _ ⟨w2.heap.size, 0, none⟩ _ i hi)))
          have E5 := Lib.hid (own_eqN Q5b.out (fun j hj => hO j (by have hj2 : w6.heap.size = j := (by simpa [Value.ownBlock] using hj); omega)))
          have E2 := Lib.hid (own_eqN Q2b.out (fun j hj => hO j (by have hj2 : g2 = j := (by simpa [Value.ownBlock] using hj); omega)))
          have ED := Lib.hid (own_eqN QDb.out (fun j hj => hO j (HD.out j hj).1))
          have HE2 : Blk wz w2.heap.size 28 #[.slice (some ⟨w6.heap.size, 0, none⟩) 6 6, .slice (some ⟨g2, 0, none⟩) 2 e2, .slice none 0 0, .slice AD ds.length cD, .int .i64 (st.bs + n), .int .i64 st.bs, .int .i64 (st.bs + n), .int .i64 st.at_, .int .i64 0] := by rw [← hwz]; exact HE.out
          have HEz := Lib.hid HE2
          clear HE HE2 hO
          have RZ := Lib.hid (R6.out.below (hbz) (by omega))
          go_upto_region 37 with fail
          try rw [hwz]
          clear hwz lc a0 a2 a4 a6 a8 y0 y2 y6 y8
          have b0 := HEz.out.get (x := .slice (some ⟨w6.heap.size, 0, none⟩) 6 6) 0 rfl
          have b1 := HEz.out.get (x := .slice (some ⟨g2, 0, none⟩) 2 e2) 1 rfl
          have b2 := HEz.out.get (x := .slice none 0 0) 2 rfl
          have b3 := HEz.out.get (x := .slice AD ds.length cD) 3 rfl
          have b4 := HEz.out.get (x := .int .i64 (st.bs + n)) 4 rfl
          have b5 := HEz.out.get (x := .int .i64 st.bs) 5 rfl
          have b6 := HEz.out.get (x := .int .i64 (st.bs + n)) 6 rfl
          have b7 := HEz.out.get (x := .int .i64 st.at_) 7 rfl
          have b8 := HEz.out.get (x := .int .i64 0) 8 rfl
          have lb := HEz.out.lt
          obtain ⟨q0, q1, q2, q3, q4, q5, q6, q7, q8⟩ := RZ.out.g9
          obtain ⟨p0, p1, p2, p3, p4, p5, p6, p7, p8⟩ := RZ.out.f9
          have lq := RZ.out.lt
          go_wp2
          obtain ⟨w9, h9, hB9, s9, hb9, ho9⟩ := put9 wz (w.heap.size + 1) 28 (.slice (some ⟨w6.heap.size, 0, none⟩) 6 6) (.slice (some ⟨g2, 0, none⟩) 2 e2) (.slice none 0 0) (.slice AD ds.length cD) (.int .i64 (st.bs + n)) (.int .i64 st.bs) (.int .i64 (st.bs + n)) (.int .i64 st.at_) (.int .i64 0) (.slice none 0 0) (.slice none 0 0) (.slice none 0 0) (.slice none 0 0) (.int .i64 0) (.int .i64 0) (.int .i64 0) (.int .i64 0) (.int .i64 0) RZ.out
          rw [h9]
          clear h9 lq lb b0 b1 b2 b3 b4 b5 b6 b7 b8 q0 p0 q1 p1 q2 p2 q3 p3 q4 p4 q5 p5 q6 p6 q7 p7 q8 p8
          obtain ⟨r0, r1, r2, r3, r4, r5, r6, r7, r8⟩ := hB9.g9
          refine bodyPost_ret (v := .tuple #[.agg #[.slice (some ⟨w6.heap.size, 0, none⟩) 6 6, .slice (some ⟨g2, 0, none⟩) 2 e2, .slice none 0 0, .slice AD ds.length cD, .int .i64 (st.bs + n), .int .i64 st.bs, .int .i64 (st.bs + n), .int .i64 st.at_, .int .i64 0], .bool true]) (by simp [results, Tryz.results12, go_sem, r0, r1, r2, r3, r4, r5, r6, r7, r8]) rfl ⟨⟨_, true, _, HfR.out, rfl, ?_⟩, hb9 _ _ (by omega) (Bw6.trans (hbz.mono B2.size))⟩
          have hRe := Hend.out
          subst hRe
          have n5 := E5.out.1
          have n2 := E2.out.1
          rw [show (SS rg).length = rg.length by simp [SS]] at n5
          rw [show (SS HM).length = HM.length by simp [SS]] at n2
          refine ⟨.slice (some ⟨w6.heap.size, 0, none⟩) 6 6, .slice (some ⟨g2, 0, none⟩) 2 e2, .slice none 0 0, .slice AD ds.length cD, ⟨some ⟨w6.heap.size, 0, none⟩, 6, some ⟨g2, 0, none⟩, e2, none, 0, AD, cD, ?_, ?_, rfl, rfl, rfl⟩, ?_, ?_, own_nilC _ _ _ _, own_more (ho9 _ _ _ _ _ _ (by omega) ED.out) (by omega), ?_, dis_n _ _ _, ?_, dis_n _ _ _, ?_, .inl rfl⟩
          ·show (Value.slice (some ⟨w6.heap.size, 0, none⟩) 6 6) = .slice (some ⟨w6.heap.size, 0, none⟩) rg.length 6; rw [show rg.length = 6 by omega]
          ·show (.slice (some ⟨g2, 0, none⟩) 2 e2 : Value) = .slice (some ⟨g2, 0, none⟩) HM.length e2; rw [show HM.length = 2 by omega]
          ·show World.ownsRow _ _ _ _ _ rg.length _; rw [show rg.length = 6 by omega]; exact own_more (ho9 _ _ _ _ _ _ (by omega) E5.out) (by omega)
          ·show World.ownsRow _ _ _ _ _ HM.length _; rw [show HM.length = 2 by omega]; exact own_more (ho9 _ _ _ _ _ _ (by omega) E2.out) (by omega)
          ·right; right; intro h; have h2 : w6.heap.size = g2 := (by simpa [Value.ownBlock] using h); omega
          ·rcases hAo : (Value.slice AD ds.length cD).ownBlock with _ | kk
           ·exact .inr (.inl hAo)
           ·right; right; rw [hAo]; intro h; injection h with h; exact (HD.out kk hAo).2.2.2 h.symm
          ·rcases hAo : (Value.slice AD ds.length cD).ownBlock with _ | kk
           ·exact .inr (.inl hAo)
           ·right; right; rw [hAo]; intro h; injection h with h; exact (HD.out kk hAo).2.2.1 h.symm
         case true =>
          have hnm := op_small Hop.out
          obtain ⟨⟨ds', done⟩, hdo⟩ : ∃ p, doP ds ok1 nm oi = p := ⟨_, rfl⟩
          have Hdo := Lib.hid (fun W hT ho => opDo_fall (.slice AD ds.length cD) ds (fun e he => by have := hze.out e he; omega) (by omega) ok1 nm (by omega) oi hdo (base := w1.heap.size) W hT ho)
          have Hdp := Lib.hid hdo
          have hdl3 := doP_len hdo
          have Hze2 := Lib.hid (doP_sz (n := 24) hnm hze.out hdo)
          clear hdo
          go_upto_region 28 with fail
          try rw [hwb]
          clear hwb
          have c0 := hOp.get (x := .int .i64 ok1) 0 rfl
          have c1 := hOp.get (x := .string nm) 1 rfl
          have c2 := hOp.get (x := .int .i64 oi) 2 rfl
          have lo9 := hOp.lt
          have x3 := Cb.out.get (x := .slice AD ds.length cD) 3 rfl
          have lcb := Cb.out.lt
          go_wp2_with fail
          clear c0 c1 c2 lo9 x3 lcb hOp
          refine (Hdo.out _ (HT.out.bl BB) QDb.out).mono ?_
          rintro e w10 ⟨v', rfl, own10, hb10⟩
          obtain ⟨A10, c10, hv10, _⟩ := own_vals own10
          subst hv10
          have Own10 := Lib.hid own10
          have lv := own_lo own10
          clear own10
          have Ct := Lib.hid (Cb.out.below hb10 Cb.out.lt)
          have Q5t := Lib.hid (own_below Q5b.out hb10 (Nat.le_refl _))
          have Q1t := Lib.hid (own_below Q1b.out hb10 (Nat.le_refl _))
          have Q2t := Lib.hid (own_below Q2b.out hb10 (Nat.le_refl _))
          have QDt := Lib.hid (own_below QDb.out hb10 (Nat.le_refl _))
          have belt := belb.trans (hb10.mono (show w1.heap.size ≤ wb.heap.size by omega))
          have zt := hb10.size
          cases done
          case false =>
           have Hend := Lib.hid (show (ds, st.bs + (n : Int), rg) = R by rw [← hfn.out, fallN_stop (fall_nodo (L := RG) (ds := ds) (q := st.bs + n) (k := ok1) (s := nm) (i := oi) (b := true) (by rw [Hq.out]; exact Hop.out) (by rw [Hdp.out]))])
           go_upto_region 33 with fail
           have a0 := Ct.out.get (x := .slice (some ⟨g1, 0, none⟩) 6 e1) 0 rfl
           have a2 := Ct.out.get (x := .slice A3' B.pd.length c3') 2 rfl
           have a4 := Ct.out.get (x := .int .i64 (st.bs + n)) 4 rfl
           have a6 := Ct.out.get (x := .int .i64 B.sf) 6 rfl
           have a8 := Ct.out.get (x := .int .i64 B.df) 8 rfl
           have y0 := Ct.out.frozen 0
           have y2 := Ct.out.frozen 2
           have y6 := Ct.out.frozen 6
           have y8 := Ct.out.frozen 8
           have lc := Ct.out.lt
           have HE := Lib.hid ((((Ct.out.put 0 (.slice (some ⟨w6.heap.size, 0, none⟩) 6 6) #[.slice (some ⟨w6.heap.size, 0, none⟩) 6 6, .slice (some ⟨g2, 0, none⟩) 2 e2, .slice A3' B.pd.length c3', .slice AD ds.length cD, .int .i64 (st.bs + n), .int .i64 st.bs, .int .i64 B.sf, .int .i64 st.at_, .int .i64 B.df] rfl).put 6 (.int .i64 (st.bs + n)) #[.slice (some ⟨w6.heap.size, 0, none⟩) 6 6, .slice (some ⟨g2, 0, none⟩) 2 e2, .slice A3' B.pd.length c3', .slice AD ds.length cD, .int .i64 (st.bs + n), .int .i64 st.bs, .int .i64 (st.bs + n), .int .i64 st.at_, .int .i64 B.df] rfl).put 2 (.slice none 0 0) #[.slice (some ⟨w6.heap.size, 0, none⟩) 6 6, .slice (some ⟨g2, 0, none⟩) 2 e2, .slice none 0 0, .slice AD ds.length cD, .int .i64 (st.bs + n), .int .i64 st.bs, .int .i64 (st.bs + n), .int .i64 st.at_, .int .i64 B.df] rfl).put 8 (.int .i64 0) #[.slice (some ⟨w6.heap.size, 0, none⟩) 6 6, .slice (some ⟨g2, 0, none⟩) 2 e2, .slice none 0 0, .slice AD ds.length cD, .int .i64 (st.bs + n), .int .i64 st.bs, .int .i64 (st.bs + n), .int .i64 st.at_, .int .i64 0] rfl)
           obtain ⟨wz, hwz⟩ : ∃ W, ((((w10.setCell ⟨w2.heap.size, 0, none⟩ (.slice (some ⟨w6.heap.size, 0, none⟩) 6 6)).setCell ⟨w2.heap.size, 6, none⟩ (.int .i64 (st.bs + n))).setCell ⟨w2.heap.size, 2, none⟩ (.slice none 0 0)).setCell ⟨w2.heap.size, 8, none⟩ (.int .i64 0)) = W := ⟨_, rfl⟩
           have hbz : Below w1.heap.size w6 wz := by rw [← hwz]; exact (((belt.setCell (p := ⟨w2.heap.size, 0, none⟩) s2 _).setCell (p := ⟨w2.heap.size, 6, none⟩) s2 _).setCell (p := ⟨w2.heap.size, 2, none⟩) s2 _).setCell (p := ⟨w2.heap.size, 8, none⟩) s2 _
           have hwS : wz.heap.size = w10.heap.size := by rw [← hwz]; simp
           have hO : ∀ i, i ≠ w2.heap.size → wz.heap[i]? = w10.heap[i]? := fun i hi => by rw [← hwz]; exact (Below.heap_setCell _ ⟨w2.heap.size, 8, none⟩ _ i hi).trans ((Below.heap_setCell _ ⟨w2.heap.size, 2, none⟩ _ i hi).trans ((Below.heap_setCell _ ⟨w2.heap.size, 6, none⟩ _ i hi).trans (Below.heap_setCell _ ⟨w2.heap.size, 0, none⟩ _ i hi)))
           have E5 := Lib.hid (own_eqN Q5t.out (fun j hj => hO j (by have hj2 : w6.heap.size = j := (by simpa [Value.ownBlock] using hj); omega)))
           have E2 := Lib.hid (own_eqN Q2t.out (fun j hj => hO j (by have hj2 : g2 = j := (by simpa [Value.ownBlock] using hj); omega)))
           have ED := Lib.hid (own_eqN QDt.out (fun j hj => hO j (HD.out j hj).1))
           have HE2 : Blk wz w2.heap.size 28 #[.slice (some ⟨w6.heap.size, 0, none⟩) 6 6, .slice (some ⟨g2, 0, none⟩) 2 e2, .slice none 0 0, .slice AD ds.length cD, .int .i64 (st.bs + n), .int .i64 st.bs, .int .i64 (st.bs + n), .int .i64 st.at_, .int .i64 0] := by rw [← hwz]; exact HE.out
           have HEz := Lib.hid HE2
           clear HE HE2 hO
           have RZ := Lib.hid (R6.out.below (hbz) (by omega))
           go_upto_region 37 with fail
           try rw [hwz]
           clear hwz lc a0 a2 a4 a6 a8 y0 y2 y6 y8
           have b0 := HEz.out.get (x := .slice (some ⟨w6.heap.size, 0, none⟩) 6 6) 0 rfl
           have b1 := HEz.out.get (x := .slice (some ⟨g2, 0, none⟩) 2 e2) 1 rfl
           have b2 := HEz.out.get (x := .slice none 0 0) 2 rfl
           have b3 := HEz.out.get (x := .slice AD ds.length cD) 3 rfl
           have b4 := HEz.out.get (x := .int .i64 (st.bs + n)) 4 rfl
           have b5 := HEz.out.get (x := .int .i64 st.bs) 5 rfl
           have b6 := HEz.out.get (x := .int .i64 (st.bs + n)) 6 rfl
           have b7 := HEz.out.get (x := .int .i64 st.at_) 7 rfl
           have b8 := HEz.out.get (x := .int .i64 0) 8 rfl
           have lb := HEz.out.lt
           obtain ⟨q0, q1, q2, q3, q4, q5, q6, q7, q8⟩ := RZ.out.g9
           obtain ⟨p0, p1, p2, p3, p4, p5, p6, p7, p8⟩ := RZ.out.f9
           have lq := RZ.out.lt
           go_wp2
           obtain ⟨w9, h9, hB9, s9, hb9, ho9⟩ := put9 wz (w.heap.size + 1) 28 (.slice (some ⟨w6.heap.size, 0, none⟩) 6 6) (.slice (some ⟨g2, 0, none⟩) 2 e2) (.slice none 0 0) (.slice AD ds.length cD) (.int .i64 (st.bs + n)) (.int .i64 st.bs) (.int .i64 (st.bs + n)) (.int .i64 st.at_) (.int .i64 0) (.slice none 0 0) (.slice none 0 0) (.slice none 0 0) (.slice none 0 0) (.int .i64 0) (.int .i64 0) (.int .i64 0) (.int .i64 0) (.int .i64 0) RZ.out
           rw [h9]
           clear h9 lq lb b0 b1 b2 b3 b4 b5 b6 b7 b8 q0 p0 q1 p1 q2 p2 q3 p3 q4 p4 q5 p5 q6 p6 q7 p7 q8 p8
           obtain ⟨r0, r1, r2, r3, r4, r5, r6, r7, r8⟩ := hB9.g9
           refine bodyPost_ret (v := .tuple #[.agg #[.slice (some ⟨w6.heap.size, 0, none⟩) 6 6, .slice (some ⟨g2, 0, none⟩) 2 e2, .slice none 0 0, .slice AD ds.length cD, .int .i64 (st.bs + n), .int .i64 st.bs, .int .i64 (st.bs + n), .int .i64 st.at_, .int .i64 0], .bool true]) (by simp [results, Tryz.results12, go_sem, r0, r1, r2, r3, r4, r5, r6, r7, r8]) rfl ⟨⟨_, true, _, HfR.out, rfl, ?_⟩, hb9 _ _ (by omega) (Bw6.trans (hbz.mono B2.size))⟩
           have hRe := Hend.out
           subst hRe
           have n5 := E5.out.1
           have n2 := E2.out.1
           rw [show (SS rg).length = rg.length by simp [SS]] at n5
           rw [show (SS HM).length = HM.length by simp [SS]] at n2
           refine ⟨.slice (some ⟨w6.heap.size, 0, none⟩) 6 6, .slice (some ⟨g2, 0, none⟩) 2 e2, .slice none 0 0, .slice AD ds.length cD, ⟨some ⟨w6.heap.size, 0, none⟩, 6, some ⟨g2, 0, none⟩, e2, none, 0, AD, cD, ?_, ?_, rfl, rfl, rfl⟩, ?_, ?_, own_nilC _ _ _ _, own_more (ho9 _ _ _ _ _ _ (by omega) ED.out) (by omega), ?_, dis_n _ _ _, ?_, dis_n _ _ _, ?_, .inl rfl⟩
           ·show (Value.slice (some ⟨w6.heap.size, 0, none⟩) 6 6) = .slice (some ⟨w6.heap.size, 0, none⟩) rg.length 6; rw [show rg.length = 6 by omega]
           ·show (.slice (some ⟨g2, 0, none⟩) 2 e2 : Value) = .slice (some ⟨g2, 0, none⟩) HM.length e2; rw [show HM.length = 2 by omega]
           ·show World.ownsRow _ _ _ _ _ rg.length _; rw [show rg.length = 6 by omega]; exact own_more (ho9 _ _ _ _ _ _ (by omega) E5.out) (by omega)
           ·show World.ownsRow _ _ _ _ _ HM.length _; rw [show HM.length = 2 by omega]; exact own_more (ho9 _ _ _ _ _ _ (by omega) E2.out) (by omega)
           ·right; right; intro h; have h2 : w6.heap.size = g2 := (by simpa [Value.ownBlock] using h); omega
           ·rcases hAo : (Value.slice AD ds.length cD).ownBlock with _ | kk
            ·exact .inr (.inl hAo)
            ·right; right; rw [hAo]; intro h; injection h with h; exact (HD.out kk hAo).2.2.2 h.symm
           ·rcases hAo : (Value.slice AD ds.length cD).ownBlock with _ | kk
            ·exact .inr (.inl hAo)
            ·right; right; rw [hAo]; intro h; injection h with h; exact (HD.out kk hAo).2.2.1 h.symm
          case true =>
           have hgo := Lib.hid (fallN_go (n := 5 - n) (rg := rg) (fall_yes (L := RG) (ds := ds) (q := st.bs + n) (by rw [Hq.out]; exact Hrc.out) (by rw [Hq.out]; exact Hop.out) Hdp.out))
           obtain ⟨k, hk, hmod, hat6⟩ := at6_get hRl q
           have hk6 : k < 6 := by omega
           have m0 : (0 : Int) ≤ q % 6 := by omega
           have m1 : q % 6 < 6 := by omega
           have m2 : (q % 6).toNat = k := by omega
           have mt : q.tmod 6 = q % 6 := Int.tmod_eq_emod_of_nonneg (by have := Hq.out; omega)
           have m3 : (0 : Int) ≤ q.tmod 6 := by omega
           have m4 : q.tmod 6 < 6 := by omega
           have m5 : (q.tmod 6).toNat = k := by omega
           clear mt
           obtain ⟨W11, hW11⟩ : ∃ W, (w10.setCell ⟨w2.heap.size, 3, none⟩ (.slice A10 ds'.length c10)).setCell ⟨w2.heap.size, 4, none⟩ (.int .i64 q) = W := ⟨_, rfl⟩
           have C11 : Blk W11 w2.heap.size 28 #[.slice (some ⟨g1, 0, none⟩) 6 e1, .slice (some ⟨g2, 0, none⟩) 2 e2, .slice A3' B.pd.length c3', .slice A10 ds'.length c10, .int .i64 q, .int .i64 st.bs, .int .i64 B.sf, .int .i64 st.at_, .int .i64 B.df] := by rw [← hW11]; exact (Ct.out.put 3 (.slice A10 ds'.length c10) #[.slice (some ⟨g1, 0, none⟩) 6 e1, .slice (some ⟨g2, 0, none⟩) 2 e2, .slice A3' B.pd.length c3', .slice A10 ds'.length c10, .int .i64 (st.bs + n), .int .i64 st.bs, .int .i64 B.sf, .int .i64 st.at_, .int .i64 B.df] rfl).put 4 (.int .i64 q) #[.slice (some ⟨g1, 0, none⟩) 6 e1, .slice (some ⟨g2, 0, none⟩) 2 e2, .slice A3' B.pd.length c3', .slice A10 ds'.length c10, .int .i64 q, .int .i64 st.bs, .int .i64 B.sf, .int .i64 st.at_, .int .i64 B.df] rfl
           have O11 := Lib.hid (show W11.ownsRow w1.heap.size 66 4 (.slice A10 ds'.length c10) ds'.length (ES ds') by rw [← hW11]; exact own_scN (own_scN (own_more Own10.out (by omega)) 3 (fun k hk => by have := lv k hk; omega) _) 4 (fun k hk => by have := lv k hk; omega) _)
           have O5 := Lib.hid (show W11.ownsRow w1.heap.size 9 1 (.slice (some ⟨w6.heap.size, 0, none⟩) 6 6) 6 (SS rg) by rw [← hW11]; exact own_scN (own_scN Q5t.out 3 (fun k hk => by have hk2 : w6.heap.size = k := (by simpa [Value.ownBlock] using hk); omega) _) 4 (fun k hk => by have hk2 : w6.heap.size = k := (by simpa [Value.ownBlock] using hk); omega) _)
           have O1 := Lib.hid (show W11.ownsRow w1.heap.size 9 1 (.slice (some ⟨g1, 0, none⟩) 6 e1) 6 (SS RG) by rw [← hW11]; exact own_scN (own_scN Q1t.out 3 (fun k hk => by have hk2 : g1 = k := (by simpa [Value.ownBlock] using hk); omega) _) 4 (fun k hk => by have hk2 : g1 = k := (by simpa [Value.ownBlock] using hk); omega) _)
           have O2 := Lib.hid (show W11.ownsRow w1.heap.size 9 1 (.slice (some ⟨g2, 0, none⟩) 2 e2) 2 (SS HM) by rw [← hW11]; exact own_scN (own_scN Q2t.out 3 (fun k hk => by have hk2 : g2 = k := (by simpa [Value.ownBlock] using hk); omega) _) 4 (fun k hk => by have hk2 : g2 = k := (by simpa [Value.ownBlock] using hk); omega) _)
           have bel11 : Below w1.heap.size w6 W11 := by rw [← hW11]; exact (belt.setCell (p := ⟨w2.heap.size, 3, none⟩) s2 _).setCell (p := ⟨w2.heap.size, 4, none⟩) s2 _
           have z11 : W11.heap.size = w10.heap.size := by rw [← hW11]; simp
           have x3 := Ct.out.get (x := .slice AD ds.length cD) 3 rfl
           have x4 := Ct.out.get (x := .int .i64 (st.bs + n)) 4 rfl
           have y3 := Ct.out.frozen 3
           have y4 := Ct.out.frozen 4
           have lct := Ct.out.lt
           have hq2 := Hq.out
           go_upto_region 32 with fail
           try rw [hq2]
           try rw [hW11]
           clear hW11 hq2 x3 x4 y3 y4 lct
           have x4 := C11.get (x := .int .i64 q) 4 rfl
           have x0 := C11.get (x := .slice (some ⟨g1, 0, none⟩) 6 e1) 0 rfl
           have l11 := C11.lt
           obtain ⟨zsrc, _⟩ := own_str O1.out hk6
           obtain ⟨sx, hsx⟩ : ∃ sx, RG.getD k ⟨#[]⟩ = sx := ⟨_, rfl⟩
           rw [hsx] at zsrc
           have Hsx := Lib.hid hsx
           clear hsx
           obtain ⟨ztgt, _⟩ := own_str O5.out hk6
           have f1 := own_frozen O5.out k
           have S5 := Lib.hid (own_set O5.out k (.string sx))
           have S1 := Lib.hid (O1.out.kept (only_sc (grown_refl W11 (some w6.heap.size)) k (.string sx)) (.inr (by simp [Value.ownBlock]; omega)))
           have S2 := Lib.hid (O2.out.kept (only_sc (grown_refl W11 (some w6.heap.size)) k (.string sx)) (.inr (by simp [Value.ownBlock]; omega)))
           have SD := Lib.hid (own_scN (g := w6.heap.size) O11.out k (fun j hj => by have := lv j hj; omega) (.string sx))
           have SC := Lib.hid (C11.far (p := ⟨w6.heap.size, k, none⟩) (by simp only; omega) (.string sx))
           have belz := bel11.setCell (p := ⟨w6.heap.size, k, none⟩) (by simp only; omega) (.string sx)
           go_still_tail 11, (by kernel_rfl)
           change wpList _ _ _ _ _ W11.drew
           go_wp2
           go_roundw
           case rel =>
            refine ⟨n + 1, by omega, ds', rg.set k sx, A10, c10, ?_, ?_, Hze2.out, by omega, ?_, SD.out, (fun j hj => by have := lv j hj; omega), ?_, S1.out, S2.out, by simp; omega, (by first | exact belz | exact belz.drew)⟩
            ·show fallN _ _ _ _ _ = _
             rw [show 6 - (n + 1) = 5 - n by omega, show st.bs + ((n + 1 : Nat) : Int) = st.bs + (n : Int) + 1 by omega]
             have h1 := hgo.out
             rw [show 5 - n + 1 = 6 - n by omega, hfn.out] at h1
             rw [h1, Hq.out, m2, hat6, ← Hsx.out, getD_at RG k hk]
            ·intro j h1 h2
             by_cases hj : j = n + 1
             ·rw [hj, show st.bs + ((n + 1 : Nat) : Int) = st.bs + (n : Int) + 1 by omega, Hq.out]; exact Hrc.out
             ·exact hrec.out j h1 (by omega)
            ·show Blk _ _ _ _; rw [show st.bs + ((n + 1 : Nat) : Int) = st.bs + (n : Int) + 1 by omega, Hq.out]; exact SC.out
            ·show World.ownsRow _ _ _ _ _ _ _; rw [SS_set]; exact S5.out
           case measure =>
            have m1c : ((W11.setCell ⟨w6.heap.size, k, none⟩ (.string sx)).drew).cell? ⟨w2.heap.size, 4, none⟩ = some (.int .i64 q) := SC.out.get (x := .int .i64 q) 4 rfl
            have m2c := hC.out.get (x := .int .i64 (st.bs + n)) 4 rfl
            have hq3 := Hq.out
            rw [m1c, m2c]
            simp only [Option.getD_some, intOf]
            omega

end Go.Proofs.YtghgafbfpejinaaGreatDoor
