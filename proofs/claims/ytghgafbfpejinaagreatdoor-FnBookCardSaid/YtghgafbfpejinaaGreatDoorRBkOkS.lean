/- part of the proof -/
import Derived.Test.YtghgafbfpejinaaGreatDoorRBkOkI
namespace Go.Proofs.YtghgafbfpejinaaGreatDoor
open Go Go.RowKit

set_option maxRecDepth 100000 in
set_option maxHeartbeats 8000000 in
theorem bookOk_spec (v : Value) (B : BookD) (sm : szBk B ≤ 1048576) (w : World) (h : IsBook w v B) :
  Calls Tryz.prog 16 #[v] w fun e w' => e = .returned (.bool (bookOkB B)) ∧ Below w.heap.size w w' := by
 obtain ⟨b, hb⟩ : ∃ b, bookOkB B = b := ⟨_, rfl⟩
 have hl := bk_len sm
 have Hz := Lib.hid (show ∀ e ∈ B.dr, e.s.size ≤ 2000000 from s_names (show szS B.dr ≤ 1048576 by unfold szBk at sm; omega))
 obtain ⟨A1, c1, A2, c2, A3, c3, A4, c4, rfl, h⟩ := h
 rw [hb]
 obtain ⟨rg, hm, pd, dr, sq, bs, sf, at_, df⟩ := B
 simp only at h hl Hz ⊢
 obtain ⟨l1, l2, l3, l4⟩ := hl
 have Hb := Lib.hid hb
 have H := Lib.hid h
 clear h hb sm
 obtain ⟨W1, hW1⟩ : ∃ W1, w.alloc (.cells #[.slice A1 rg.length c1, .slice A2 hm.length c2, .slice A3 pd.length c3, .slice A4 dr.length c4, .int .i64 sq, .int .i64 bs, .int .i64 sf, .int .i64 at_, .int .i64 df] 28) = W1 := ⟨_, rfl⟩
 have B1 : Below w.heap.size w W1 := by rw [← hW1]; exact belA (bel0 w) _
 have S1 : W1.heap.size = w.heap.size + 1 := by rw [← hW1]; simp
 have hV : Blk W1 w.heap.size 28 #[.slice A1 rg.length c1, .slice A2 hm.length c2, .slice A3 pd.length c3, .slice A4 dr.length c4, .int .i64 sq, .int .i64 bs, .int .i64 sf, .int .i64 at_, .int .i64 df] := by rw [← hW1]; exact Blk.new' _ _ _ _ rfl
 have HW1 := Lib.hid hW1
 have HV := Lib.hid hV
 have H1 := Lib.hid (H.out.next B1)
 clear hW1 H hV
 obtain ⟨v0, v1, v2, v3, v4, v5, v6, v7, v8⟩ := HV.out.g9
 go_enter Tryz.func16, Tryz.ntmps16
 rcases e1 : ((rg.length : Int) != 6) with _ | _
 rotate_left
 ·have Hf := Lib.hid (show false = b by rw [← Hb.out]; exact (bk_no fun h => by have := h.r; simp only at this; rw [this] at e1; simp at e1).symm)
  go_wp2_with (go_at_call 43; refine (l1In_any _ _ _ _).mono ?_; rintro e w' ⟨rfl, rfl⟩)
  all_goals first | (exfalso; rename_i hq _; cases hq; done) | (go_ret; exact ⟨ret_bool (by first | exact Hf.out | simpa using Hf.out), by rw [HW1.out]; exact B1⟩)
 rcases e2 : ((hm.length : Int) != 2) with _ | _
 rotate_left
 ·have Hf := Lib.hid (show false = b by rw [← Hb.out]; exact (bk_no fun h => by have := h.h; simp only at this; rw [this] at e2; simp at e2).symm)
  go_wp2_with (go_at_call 43; refine (l1In_any _ _ _ _).mono ?_; rintro e w' ⟨rfl, rfl⟩)
  all_goals first | (exfalso; rename_i hq _; cases hq; done) | (go_ret; exact ⟨ret_bool (by first | exact Hf.out | simpa using Hf.out), by rw [HW1.out]; exact B1⟩)
 by_cases e3 : (20 : Int) < pd.length
 ·have Hf := Lib.hid (show false = b by rw [← Hb.out]; exact (bk_no fun h => by have := h.q; simp only at this; omega).symm)
  go_wp2_with (go_at_call 43; refine (l1In_any _ _ _ _).mono ?_; rintro e w' ⟨rfl, rfl⟩)
  all_goals first | (exfalso; rename_i hq _; cases hq; done) | (go_ret; exact ⟨ret_bool (by first | exact Hf.out | simpa using Hf.out), by rw [HW1.out]; exact B1⟩)
 go_wp2_with fail
 rw [HW1.out]
 refine (dirOk_spec A4 dr.length c4 dr Hz.out _ (by omega) H1.out.2.2.2).mono ?_
 rintro e w3 ⟨rfl, hb3⟩
 have b3 := belN B1 hb3
 have u2 := keep1 hb3 v2 (Nat.le_refl _)
 have u4 := keep1 hb3 v4 (Nat.le_refl _)
 have u5 := keep1 hb3 v5 (Nat.le_refl _)
 have u6 := keep1 hb3 v6 (Nat.le_refl _)
 have u7 := keep1 hb3 v7 (Nat.le_refl _)
 have u8 := keep1 hb3 v8 (Nat.le_refl _)
 have H3 := Lib.hid (H1.out.2.2.1.below hb3)
 clear v0 v1 v2 v3 v4 v5 v6 v7 v8 hb3
 have v2 := u2
 have v4 := u4
 have v5 := u5
 have v6 := u6
 have v7 := u7
 have v8 := u8
 clear u2 u4 u5 u6 u7 u8
 rcases e4 : dirOkB dr with _ | _
 ·have Hf := Lib.hid (show false = b by rw [← Hb.out]; exact (bk_no fun h => by have := h.d; simp only at this; rw [this] at e4; cases e4).symm)
  go_wp2_with (go_at_call 43; refine (l1In_any _ _ _ _).mono ?_; rintro e w' ⟨rfl, rfl⟩)
  all_goals first | (exfalso; rename_i hq _; cases hq; done) | (go_ret; exact ⟨ret_bool (by first | exact Hf.out | simpa using Hf.out), b3⟩)
 rcases e5 : inI bs 0 sf with _ | _
 ·have Hf := Lib.hid (show false = b by rw [← Hb.out]; exact (bk_no fun h => by have := h.b; simp only at this; rw [this] at e5; cases e5).symm)
  go_wp2_with (go_at_call 43; refine (l1In_any _ _ _ _).mono ?_; rintro e w' ⟨rfl, rfl⟩)
  all_goals first | (exfalso; rename_i hq _; cases hq; done) | (go_ret; exact ⟨ret_bool (by first | exact Hf.out | simpa using Hf.out), b3⟩)
 have e5' := inI_t.1 e5
 by_cases e6 : sq < sf
 ·have Hf := Lib.hid (show false = b by rw [← Hb.out]; exact (bk_no fun h => by have := h.f; simp only at this; omega).symm)
  go_wp2_with (go_at_call 43; refine (l1In_any _ _ _ _).mono ?_; rintro e w' ⟨rfl, rfl⟩)
  all_goals first | (exfalso; rename_i hq _; cases hq; done) | (go_ret; exact ⟨ret_bool (by first | exact Hf.out | simpa using Hf.out), b3⟩)
 by_cases e7 : (1000000 : Int) < sq
 ·have Hf := Lib.hid (show false = b by rw [← Hb.out]; exact (bk_no fun h => by have := h.m; simp only at this; omega).symm)
  go_wp2_with (go_at_call 43; refine (l1In_any _ _ _ _).mono ?_; rintro e w' ⟨rfl, rfl⟩)
  all_goals first | (exfalso; rename_i hq _; cases hq; done) | (go_ret; exact ⟨ret_bool (by first | exact Hf.out | simpa using Hf.out), b3⟩)
 by_cases e8 : (6 : Int) < sq - bs
 ·have Hf := Lib.hid (show false = b by rw [← Hb.out]; exact (bk_no fun h => by have := h.s; simp only at this; omega).symm)
  go_wp2_with (go_at_call 43; refine (l1In_any _ _ _ _).mono ?_; rintro e w' ⟨rfl, rfl⟩)
  all_goals first | (exfalso; rename_i hq _; cases hq; done) | (go_ret; exact ⟨ret_bool (by first | exact Hf.out | simpa using Hf.out), b3⟩)
 rcases e9 : inI at_ 0 1 with _ | _
 ·have Hf := Lib.hid (show false = b by rw [← Hb.out]; exact (bk_no fun h => by have := h.a; simp only at this; rw [this] at e9; cases e9).symm)
  go_wp2_with (go_at_call 43; refine (l1In_any _ _ _ _).mono ?_; rintro e w' ⟨rfl, rfl⟩)
  all_goals first | (exfalso; rename_i hq _; cases hq; done) | (go_ret; exact ⟨ret_bool (by first | exact Hf.out | simpa using Hf.out), b3⟩)
 have n6 : rg.length = 6 := by have : (rg.length : Int) = 6 := by simpa using e1
                               omega
 have n2 : hm.length = 2 := by have : (hm.length : Int) = 2 := by simpa using e2
                               omega
 have Hyes := Lib.hid (show (df = 0 ∨ (bs < df ∧ df ≤ sq)) → (∀ e ∈ pd, inI e.1 0 7 = true) → true = b from fun hc hp => by rw [← Hb.out]; exact (bk_yes ⟨hp, n6, n2, by simp only; omega, e4, e5, by simp only; omega, by simp only; omega, by simp only; omega, e9, hc⟩).symm)
 rcases e10 : ((df : Int) != 0) with _ | _
 ·have Hy2 := Lib.hid (Hyes.out (.inl (by simpa using e10)))
  go_wp2_with (go_at_call 43; refine (l1In_any _ _ _ _).mono ?_; rintro e w' ⟨rfl, rfl⟩)
  clear v4 v5 v6 v7 v8
  go_loopw [3] (fun i wr => ∃ (k : Nat), k ≤ pd.length ∧ i = .int .i64 k ∧ Hid (∀ j (h : j < pd.length), j < k → inI (pd[j]).1 0 7 = true) ∧ w3 = wr)
   (fun i _ => pd.length - (intOf i).toNat)
  case atStart => exact ⟨0, by omega, rfl, fun j _ hj => absurd hj (by omega), rfl⟩
  case round =>
   obtain ⟨k, hk, rfl, hok, rfl⟩ := hrel
   by_cases hlt : k < pd.length
   ·obtain ⟨hkx, b1, o1, rfl, hadb, z0, z1⟩ := reads_rec H3.out hlt
    have q0 : (0 : Int) ≤ ↑k := by omega
    have q1 : (↑k : Int) < ↑pd.length := by omega
    obtain ⟨e, he⟩ : ∃ e, pd[k] = e := ⟨_, rfl⟩
    have He := Lib.hid he
    rw [he] at z0 z1
    clear he
    obtain ⟨ep, et⟩ := e
    simp only at z0 z1
    rcases hx : inI ep 0 7 with _ | _
    ·have Hf := Lib.hid (show false = b by rw [← Hb.out]; exact (bk_p (B := ⟨rg, hm, pd, dr, sq, bs, sf, at_, df⟩) hkx He.out hx).symm)
     go_wp2_with (go_at_call 43; refine (l1In_any _ _ _ _).mono ?_; rintro e w' ⟨rfl, rfl⟩)
     go_ret
     exact ⟨ret_bool Hf.out, b3⟩
    ·have Hx := Lib.hid hx
     go_wp2_with (go_at_call 43; refine (l1In_any _ _ _ _).mono ?_; rintro e w' ⟨rfl, rfl⟩)
     go_roundw
     case rel => 
      refine ⟨k + 1, by omega, by go_num, fun j hj hjk => ?_, trivial⟩
      rcases Nat.lt_or_ge j k with h | h
      ·exact hok.out j hj h
      ·obtain rfl : j = k := by omega
       rw [He.out]; exact Hx.out
     case measure => simp [intOf]; omega
   ·obtain rfl : k = pd.length := by omega
    have Hf := Lib.hid (Hy2.out (show ∀ e ∈ pd, inI e.1 0 7 = true by
     intro e he
     obtain ⟨j, hj, rfl⟩ := List.getElem_of_mem he
     exact hok.out j hj hj))
    go_wp2
    go_ret
    exact ⟨ret_bool Hf.out, b3⟩
 rcases e11 : inI df (bs + 1) sq with _ | _
 ·have Hf := Lib.hid (show false = b by rw [← Hb.out]; exact (bk_no fun h => by have := h.c; have h2 := inI_f.1 e11; simp only at this; simp at e10; omega).symm)
  go_wp2_with (go_at_call 43; refine (l1In_any _ _ _ _).mono ?_; rintro e w' ⟨rfl, rfl⟩)
  all_goals first | (exfalso; rename_i hq _; cases hq; done) | (go_ret; exact ⟨ret_bool (by first | exact Hf.out | simpa using Hf.out), b3⟩)
 have Hy2 := Lib.hid (Hyes.out (.inr (by have h2 := inI_t.1 e11; omega)))
 go_wp2_with (go_at_call 43; refine (l1In_any _ _ _ _).mono ?_; rintro e w' ⟨rfl, rfl⟩)
 clear v4 v5 v6 v7 v8
 go_loopw [3] (fun i wr => ∃ (k : Nat), k ≤ pd.length ∧ i = .int .i64 k ∧ Hid (∀ j (h : j < pd.length), j < k → inI (pd[j]).1 0 7 = true) ∧ w3 = wr)
  (fun i _ => pd.length - (intOf i).toNat)
 case atStart => exact ⟨0, by omega, rfl, fun j _ hj => absurd hj (by omega), rfl⟩
 case round =>
  obtain ⟨k, hk, rfl, hok, rfl⟩ := hrel
  by_cases hlt : k < pd.length
  ·obtain ⟨hkx, b1, o1, rfl, hadb, z0, z1⟩ := reads_rec H3.out hlt
   have q0 : (0 : Int) ≤ ↑k := by omega
   have q1 : (↑k : Int) < ↑pd.length := by omega
   obtain ⟨e, he⟩ : ∃ e, pd[k] = e := ⟨_, rfl⟩
   have He := Lib.hid he
   rw [he] at z0 z1
   clear he
   obtain ⟨ep, et⟩ := e
   simp only at z0 z1
   rcases hx : inI ep 0 7 with _ | _
   ·have Hf := Lib.hid (show false = b by rw [← Hb.out]; exact (bk_p (B := ⟨rg, hm, pd, dr, sq, bs, sf, at_, df⟩) hkx He.out hx).symm)
    go_wp2_with (go_at_call 43; refine (l1In_any _ _ _ _).mono ?_; rintro e w' ⟨rfl, rfl⟩)
    go_ret
    exact ⟨ret_bool Hf.out, b3⟩
   ·have Hx := Lib.hid hx
    go_wp2_with (go_at_call 43; refine (l1In_any _ _ _ _).mono ?_; rintro e w' ⟨rfl, rfl⟩)
    go_roundw
    case rel => 
     refine ⟨k + 1, by omega, by go_num, fun j hj hjk => ?_, trivial⟩
     rcases Nat.lt_or_ge j k with h | h
     ·exact hok.out j hj h
     ·obtain rfl : j = k := by omega
      rw [He.out]; exact Hx.out
    case measure => simp [intOf]; omega
  ·obtain rfl : k = pd.length := by omega
   have Hf := Lib.hid (Hy2.out (show ∀ e ∈ pd, inI e.1 0 7 = true by
    intro e he
    obtain ⟨j, hj, rfl⟩ := List.getElem_of_mem he
    exact hok.out j hj hj))
   go_wp2
   go_ret
   exact ⟨ret_bool Hf.out, b3⟩

end Go.Proofs.YtghgafbfpejinaaGreatDoor
