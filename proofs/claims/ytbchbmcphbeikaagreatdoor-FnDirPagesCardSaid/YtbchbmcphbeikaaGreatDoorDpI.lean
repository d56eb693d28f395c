/- The program's DpAdd and DpDrop. -/
import Derived.Test.YtbchbmcphbeikaaGreatDoorDpLaw
import Derived.Test.YtbchbmcphbeikaaGreatDoorLook2
import Derived.Test.YtbchbmcphbeikaaGreatDoorAdd
namespace Go.Proofs.YtbchbmcphbeikaaGreatDoor
open Go Go.RowKit

/-- What DpAdd and DpDrop leave: pages whose list is what the row is. -/
def DpPost (w : World) (P : List EntD × Bool) (r : Ending) (w' : World) : Prop :=
  ∃ A m c ps' b, r = .returned (.tuple #[.slice A m c, .bool b]) ∧ okPB ps' = true ∧ P = (pgL ps', b) ∧ PgFr w' w.heap.size A m ps'
theorem dpPost_end {w w' : World} {P : List EntD × Bool} {v : Value} {A : Option Addr} {m c : Nat} {ps' : List (List EntD)} {b : Bool} (hv : v = .tuple #[.slice A m c, .bool b]) (h1 : okPB ps' = true) (h2 : P = (pgL ps', b)) (h3 : PgFr w' w.heap.size A m ps') : DpPost w P (.returned v) w' := ⟨A, m, c, ps', b, by rw [hv], h1, h2, h3⟩
theorem pgFr_nil (w : World) (lo : Nat) : PgFr w lo none 0 [] := ⟨[], Reads.none_, rfl, (fun ad e => by cases e), fun i hi => absurd hi (by simp)⟩
theorem ok_nilP : okPB [] = true := okPB_true ⟨by simp, fun l h => absurd h (List.not_mem_nil), pw_Ord .nil⟩

set_option maxRecDepth 100000 in
set_option maxHeartbeats 4000000 in
theorem dpAdd_no (v : Value) (ps : List (List EntD)) (sm : szSS ps ≤ 1048576) (s : ByteArray) (id : Int) (hok : dpOkB ps = false) (w : World) (hT : Tab w) (h : IsSS w v ps) :
    Calls Tryz.prog 6 #[v, .string s, .int .i64 id] w fun e w' => e = .returned (.tuple #[.slice none 0 0, .bool false]) ∧ Below w.heap.size w w' := by
  have HT := Lib.hid hT
  have HA := Lib.hid h
  obtain ⟨A, c, rfl, _⟩ := h
  have Hok := Lib.hid hok
  clear hok hT
  go_enter Tryz.func6, Tryz.ntmps6
  go_wp2_with fail
  refine (dpOk_impl _ ps sm _ HT.out HA.out).mono ?_
  rintro e w1 ⟨rfl, hb1⟩
  rw [Hok.out]
  go_wp2
  exact bodyPost_ret (v := .tuple #[.slice none 0 0, .bool false]) (by simp [results, Tryz.results6, go_sem]) rfl ⟨rfl, hb1⟩

set_option maxRecDepth 100000 in
set_option maxHeartbeats 4000000 in
theorem dpAdd_yes (v : Value) (ps : List (List EntD)) (sm : szSS ps ≤ 1048576) (s : ByteArray) (hs : s.size ≤ 2000000) (id : Int) (hok : dpOkB ps = true) (w : World) (hT : Tab w) (h : IsSS w v ps) :
    Calls Tryz.prog 6 #[v, .string s, .int .i64 id] w fun e w' => DpPost w (addP (pgL ps) s id) e w' ∧ Below w.heap.size w w' := by
  have HT := Lib.hid hT
  have hf := dp_flat sm
  have hn := dp_len sm
  have hp := dp_pgL sm
  have HA := Lib.hid h
  obtain ⟨A, c, rfl, hr⟩ := h
  have Hp := Lib.hid (fun W (hb : Below w.heap.size w W) => (hr.below hb).more hb.size)
  have h12 : okPB ps = true ∧ dirOkB (pgL ps) = true := by unfold dpOkB at hok; simpa using hok
  obtain ⟨ho, hd⟩ := h12
  have Ho := Lib.hid ho
  have Hd := Lib.hid hd
  have Hok := Lib.hid hok
  have Hnm := Lib.hid (dp_names sm)
  have hs8 := ok_small ho
  clear hT hr ho hd hok
  go_enter Tryz.func6, Tryz.ntmps6
  go_wp2_with fail
  refine (dpOk_impl _ ps sm _ HT.out HA.out).mono ?_
  rintro e w1 ⟨rfl, hb1⟩
  rw [Hok.out]
  go_wp2_with fail
  refine (pgList_impl A _ c ps hf hn _ (Hp.out _ hb1)).mono ?_
  rintro e w2 ⟨v1, rfl, own1, hb2⟩
  obtain ⟨A1, c1, rfl, _, _, hr1⟩ := own_vals own1
  have B2 := belN hb1 hb2
  have HR1 := Lib.hid hr1
  clear own1 hr1
  go_wp2_with fail
  refine (add_impl A1 _ c1 (pgL ps) Hnm.out (by omega) s hs id _ (HT.out.bl B2) HR1.out).mono ?_
  rintro e w3 ⟨⟨L, b, v2, n2, hL, hn2, rfl, own2⟩, hb3⟩
  obtain ⟨A2, c2, rfl, _, _, hr2⟩ := own_vals own2
  have B3 := belN B2 hb3
  have HR2 := Lib.hid hr2
  have HL := Lib.hid hL
  clear own2 hr2
  by_cases hc : nameOkB s = true ∧ (pgL ps).find? (isN s) = none ∧ inI id 1 100000 = true ∧ (pgL ps).length ≠ 12
  · have h2 := hL.symm.trans (addP_yes Hd.out hc)
    simp only [Prod.mk.injEq] at h2
    obtain ⟨rfl, rfl⟩ := h2
    have hlen := insL_len (newE (pgL ps) s id) (pgL ps)
    have hlook := look_new (id := id) Hd.out hc
    obtain ⟨ps', hadd, hok', hpg⟩ := dpAdd_plain (s := s) (id := id) Ho.out Hd.out
    have HM := Lib.hid (show ∀ e ∈ insL (newE (pgL ps) s id) (pgL ps), e.s.size ≤ 2000000 from fun e he => by
      rcases insL_mem he with rfl | he
      · exact hs
      · exact Hnm.out e he)
    have Hlook := Lib.hid hlook
    have Hadd := Lib.hid hadd
    have Hpg := Lib.hid hpg
    obtain ⟨E, hE⟩ : ∃ E, newE (pgL ps) s id = E := ⟨_, rfl⟩
    rw [hE] at HM Hlook Hadd Hpg HL HR2 hn2 hlen
    clear hlook hadd hpg hL hc
    go_wp2_with fail
    refine (look_impl A2 n2 c2 (insL E (pgL ps)) HM.out (by omega) s hs _ (HT.out.bl B3) HR2.out).mono ?_
    rintro e w4 ⟨⟨E', fb, hE', rfl⟩, hb4⟩
    rw [Hlook.out] at hE'
    simp only [Prod.mk.injEq] at hE'
    obtain ⟨rfl, rfl⟩ := hE'
    have B4 := belN B3 hb4
    go_wp2_with fail
    refine (pgAdd_impl A _ c ps E.h E.i E.s E.d Ho.out _ (Hp.out _ (belA B4 _))).mono ?_
    rintro e w5 ⟨A5, m5, c5, ps5, b5, rfl, hadd5, hfr5, hb5⟩
    have h5 := hadd5.symm.trans Hadd.out
    simp only [Prod.mk.injEq] at h5
    obtain ⟨rfl, rfl⟩ := h5
    have HF := Lib.hid hfr5
    have B5 := belN (belA B4 (.cells #[.int .i64 E.h, .int .i64 E.i, .string E.s, .int .i64 E.d] 40)) hb5
    clear hfr5 hadd5
    go_wp2
    refine bodyPost_ret (v := .tuple #[.slice A5 m5 c5, .bool true]) (by simp [results, Tryz.results6, go_sem]) rfl ⟨dpPost_end rfl hok' (by rw [HL.out, Hpg.out]) (HF.out.mono (Nat.le_trans B4.size (by simp))), B5⟩
  · have h2 := hL.symm.trans (addP_no Hd.out hc)
    simp only [Prod.mk.injEq] at h2
    obtain ⟨rfl, rfl⟩ := h2
    clear hL hc
    go_wp2_with fail
    refine (copyPages_impl A _ c ps (by omega) (fun l hl => by have := hs8.2.1 l hl; omega) _ (Hp.out _ B3)).mono ?_
    rintro e w4 ⟨v4, L4, rfl, hcon, _, HO, hown, hb4⟩
    obtain ⟨A5, c5, rfl, hpg⟩ := pages_of HO hown
    rw [hcon] at hpg
    have HPG := Lib.hid hpg
    have B4 := belN B3 hb4
    clear HO hown hpg
    go_wp2
    refine bodyPost_ret (v := .tuple #[.slice A5 L4.length c5, .bool false]) (by simp [results, Tryz.results6, go_sem]) rfl ⟨dpPost_end rfl Ho.out HL.out (HPG.out.mono B3.size), B4⟩

set_option maxRecDepth 100000 in
set_option maxHeartbeats 4000000 in
theorem dpDrop_no (v : Value) (ps : List (List EntD)) (sm : szSS ps ≤ 1048576) (s : ByteArray) (hok : dpOkB ps = false) (w : World) (hT : Tab w) (h : IsSS w v ps) :
    Calls Tryz.prog 12 #[v, .string s] w fun e w' => e = .returned (.tuple #[.slice none 0 0, .bool false]) ∧ Below w.heap.size w w' := by
  have HT := Lib.hid hT
  have HA := Lib.hid h
  obtain ⟨A, c, rfl, _⟩ := h
  have Hok := Lib.hid hok
  clear hok hT
  go_enter Tryz.func12, Tryz.ntmps12
  go_wp2_with fail
  refine (dpOk_impl _ ps sm _ HT.out HA.out).mono ?_
  rintro e w1 ⟨rfl, hb1⟩
  rw [Hok.out]
  go_wp2
  exact bodyPost_ret (v := .tuple #[.slice none 0 0, .bool false]) (by simp [results, Tryz.results12, go_sem]) rfl ⟨rfl, hb1⟩

set_option maxRecDepth 100000 in
set_option maxHeartbeats 4000000 in
theorem dpDrop_yes (v : Value) (ps : List (List EntD)) (sm : szSS ps ≤ 1048576) (s : ByteArray) (hs : s.size ≤ 2000000) (hok : dpOkB ps = true) (w : World) (hT : Tab w) (h : IsSS w v ps) :
    Calls Tryz.prog 12 #[v, .string s] w fun e w' => DpPost w (dropP (pgL ps) s) e w' ∧ Below w.heap.size w w' := by
  have HT := Lib.hid hT
  have hf := dp_flat sm
  have hn := dp_len sm
  have hp := dp_pgL sm
  have HA := Lib.hid h
  obtain ⟨A, c, rfl, hr⟩ := h
  have Hp := Lib.hid (fun W (hb : Below w.heap.size w W) => (hr.below hb).more hb.size)
  have h12 : okPB ps = true ∧ dirOkB (pgL ps) = true := by unfold dpOkB at hok; simpa using hok
  obtain ⟨ho, hd⟩ := h12
  have Ho := Lib.hid ho
  have Hd := Lib.hid hd
  have Hok := Lib.hid hok
  have Hnm := Lib.hid (dp_names sm)
  have hs8 := ok_small ho
  clear hT hr ho hd hok
  go_enter Tryz.func12, Tryz.ntmps12
  go_wp2_with fail
  refine (dpOk_impl _ ps sm _ HT.out HA.out).mono ?_
  rintro e w1 ⟨rfl, hb1⟩
  rw [Hok.out]
  go_wp2_with fail
  refine (pgList_impl A _ c ps hf hn _ (Hp.out _ hb1)).mono ?_
  rintro e w2 ⟨v1, rfl, own1, hb2⟩
  obtain ⟨A1, c1, rfl, _, _, hr1⟩ := own_vals own1
  have B2 := belN hb1 hb2
  have HR1 := Lib.hid hr1
  clear own1 hr1
  go_wp2_with fail
  refine (look_impl A1 _ c1 (pgL ps) Hnm.out (by omega) s hs _ (HT.out.bl B2) HR1.out).mono ?_
  rintro e w3 ⟨⟨E, fb, hE, rfl⟩, hb3⟩
  have B3 := belN B2 hb3
  rcases hfd : (pgL ps).find? (isN s) with _ | E0
  · have h2 := hE.symm.trans (lookP_none Hd.out hfd)
    simp only [Prod.mk.injEq] at h2
    obtain ⟨rfl, rfl⟩ := h2
    have HL := Lib.hid (dropP_no Hd.out hfd)
    clear hE hfd
    go_wp2_with fail
    refine (copyPages_impl A _ c ps (by omega) (fun l hl => by have := hs8.2.1 l hl; omega) _ (Hp.out _ (belA B3 _))).mono ?_
    rintro e w4 ⟨v4, L4, rfl, hcon, _, HO, hown, hb4⟩
    obtain ⟨A5, c5, rfl, hpg⟩ := pages_of HO hown
    rw [hcon] at hpg
    have HPG := Lib.hid hpg
    have B4 := belN (belA B3 (.cells #[.int .i64 0, .int .i64 0, .string ⟨#[]⟩, .int .i64 0] 40)) hb4
    clear HO hown hpg
    go_wp2
    refine bodyPost_ret (v := .tuple #[.slice A5 L4.length c5, .bool false]) (by simp [results, Tryz.results12, go_sem]) rfl ⟨dpPost_end rfl Ho.out HL.out (HPG.out.mono (Nat.le_trans B3.size (by simp))), B4⟩
  · have h2 := hE.symm.trans (lookP_some Hd.out hfd)
    simp only [Prod.mk.injEq] at h2
    obtain ⟨rfl, rfl⟩ := h2
    have Hfd := Lib.hid hfd
    clear hE hfd
    go_wp2_with fail
    refine (pgDrop_impl A _ c ps E.h E.i Ho.out _ (Hp.out _ (belA B3 _))).mono ?_
    rintro e w5 ⟨A5, m5, c5, ps5, b5, rfl, hD, hfr5, hb5⟩
    obtain ⟨rfl, hok5, hdr⟩ := dpDrop_plain Ho.out Hd.out Hfd.out hD
    have HF := Lib.hid hfr5
    have Hdr := Lib.hid hdr
    have B5 := belN (belA B3 (.cells #[.int .i64 E.h, .int .i64 E.i, .string E.s, .int .i64 E.d] 40)) hb5
    clear hfr5 hD hdr
    go_wp2
    refine bodyPost_ret (v := .tuple #[.slice A5 m5 c5, .bool true]) (by simp [results, Tryz.results12, go_sem]) rfl ⟨dpPost_end rfl hok5 Hdr.out (HF.out.mono (Nat.le_trans B3.size (by simp))), B5⟩

end Go.Proofs.YtbchbmcphbeikaaGreatDoor
