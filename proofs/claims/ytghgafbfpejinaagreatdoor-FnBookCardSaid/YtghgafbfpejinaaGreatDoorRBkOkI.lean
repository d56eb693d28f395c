/- Whether a book is right, in both packages. -/
import Derived.Test.YtghgafbfpejinaaGreatDoorRBook
import Derived.Test.YtghgafbfpejinaaGreatDoorRLook
namespace Go.Proofs.YtghgafbfpejinaaGreatDoor
open Go Go.RowKit

/-- What a right book is. -/
structure BookP (B : BookD) : Prop where
 p : ∀ e ∈ B.pd, inI e.1 0 7 = true
 r : B.rg.length = 6
 h : B.hm.length = 2
 q : B.pd.length ≤ 20
 d : dirOkB B.dr = true
 b : inI B.bs 0 B.sf = true
 f : B.sf ≤ B.sq
 m : B.sq ≤ 1000000
 s : B.sq ≤ B.bs + 6
 a : inI B.at_ 0 1 = true
 c : B.df = 0 ∨ (B.bs < B.df ∧ B.df ≤ B.sq)
noncomputable def bookOkB (B : BookD) : Bool := @decide (BookP B) (Classical.propDecidable _)
theorem bk_yes {B : BookD} (h : BookP B) : bookOkB B = true := (@decide_eq_true_iff _ (Classical.propDecidable _)).2 h
theorem bk_no {B : BookD} (h : BookP B → False) : bookOkB B = false := by
 rcases hb : bookOkB B with _ | _
 ·rfl
 ·exact (h ((@decide_eq_true_iff _ (Classical.propDecidable _)).1 hb)).elim
theorem bk_p {B : BookD} {k : Nat} {e : Int × ByteArray} (hk : k < B.pd.length) (he : B.pd[k] = e) (hx : inI e.1 0 7 = false) : bookOkB B = false := bk_no fun h => by
 have := h.p _ (List.getElem_mem hk); rw [he, hx] at this; cases this
theorem inI_t {a b c : Int} : inI a b c = true ↔ b ≤ a ∧ a ≤ c := by unfold inI; simp
theorem inI_f {a b c : Int} : inI a b c = false ↔ ¬ (b ≤ a ∧ a ≤ c) := by rw [← inI_t]; simp

set_option maxRecDepth 100000 in
set_option maxHeartbeats 8000000 in
theorem bookOk_impl (v : Value) (B : BookD) (sm : szBk B ≤ 1048576) (w : World) (hT : Tab w) (h : IsBook w v B) :
  Calls Tryz.prog 27 #[v] w fun e w' => e = .returned (.bool (bookOkB B)) ∧ Below w.heap.size w w' := by
 have HT := Lib.hid hT
 clear hT
 obtain ⟨b, hb⟩ : ∃ b, bookOkB B = b := ⟨_, rfl⟩
 have hl := bk_len sm
 have Hz := Lib.hid (show ∀ e ∈ B.dr, e.s.size ≤ 2000000 from s_names (show szS B.dr ≤ 1048576 by unfold szBk at sm; omega))
 obtain ⟨A1, c1, A2, c2, A3, c3, A4, c4, rfl, h⟩ := h
 rw [hb]
 obtain ⟨rg, hm, pd, dr, sq, bs, sf, at_, df⟩ := B
 simp only at h hl Hz ⊢
 obtain ⟨l1, l2, l3, l4⟩ := hl
 have Hb := Lib.hid hb
 have H := Lib.hid h
 clear h hb sm
 obtain ⟨W1, hW1⟩ : ∃ W1, w.alloc (.cells #[.slice A1 rg.length c1, .slice A2 hm.length c2, .slice A3 pd.length c3, .slice A4 dr.length c4, .int .i64 sq, .int .i64 bs, .int .i64 sf, .int .i64 at_, .int .i64 df] 28) = W1 := ⟨_, rfl⟩
 have B1 : Below w.heap.size w W1 := by rw [← hW1]; exact belA (bel0 w) _
 have S1 : W1.heap.size = w.heap.size + 1 := by rw [← hW1]; simp
 have hV : Blk W1 w.heap.size 28 #[.slice A1 rg.length c1, .slice A2 hm.length c2, .slice A3 pd.length c3, .slice A4 dr.length c4, .int .i64 sq, .int .i64 bs, .int .i64 sf, .int .i64 at_, .int .i64 df] := by rw [← hW1]; exact Blk.new' _ _ _ _ rfl
 have HW1 := Lib.hid hW1
 have HV := Lib.hid hV
 have H1 := Lib.hid (H.out.next B1)
 clear hW1 H hV
 have HT1 := Lib.hid (HT.out.bl B1)
 clear HT
 have v2 := HV.out.get 2 rfl
 go_enter Tryz.func27, Tryz.ntmps27
 go_wp2_with fail
 rw [HW1.out]
 go_wp2
 clear v2
 go_loopw [8] (fun i wr => ∃ (k : Nat), k ≤ pd.length ∧ i = .int .i64 k ∧ Hid (∀ j (h : j < pd.length), j < k → inI (pd[j]).1 0 7 = true) ∧ Below W1.heap.size W1 wr)
  (fun i _ => pd.length - (intOf i).toNat)
 case atStart => exact ⟨0, by omega, rfl, fun j _ hj => absurd hj (by omega), bel0 W1⟩
 case round =>
  obtain ⟨k, hk, rfl, hok, hbel⟩ := hrel
  by_cases hlt : k < pd.length
  ·obtain ⟨hkx, b1, o1, rfl, hadb, z0, z1⟩ := reads_rec (H1.out.2.2.1.below hbel) hlt
   have q0 : (0 : Int) ≤ ↑k := by omega
   have q1 : (↑k : Int) < ↑pd.length := by omega
   obtain ⟨e, he⟩ : ∃ e, pd[k] = e := ⟨_, rfl⟩
   have He := Lib.hid he
   rw [he] at z0 z1
   clear he
   obtain ⟨ep, et⟩ := e
   simp only at z0 z1
   rcases hx : inI ep 0 7 with _ | _
   ·have Hf := Lib.hid (show false = b by rw [← Hb.out]; exact (bk_p (B := ⟨rg, hm, pd, dr, sq, bs, sf, at_, df⟩) hkx He.out hx).symm)
    go_wp2_with (go_at_call 55; refine (within_any _ _ _ _).mono ?_; rintro e w' ⟨rfl, rfl⟩)
    go_ret
    exact ⟨ret_bool Hf.out, (B1.trans (hbel.mono B1.size)).trans (belA (bel0 wr) _ |>.mono (by have := hbel.size; have := B1.size; omega))⟩
   ·have Hx := Lib.hid hx
    go_wp2_with (go_at_call 55; refine (within_any _ _ _ _).mono ?_; rintro e w' ⟨rfl, rfl⟩)
    go_roundw
    case rel => 
     refine ⟨k + 1, by omega, by go_num, fun j hj hjk => ?_, belA hbel _⟩
     rcases Nat.lt_or_ge j k with h | h
     ·exact hok.out j hj h
     ·obtain rfl : j = k := by omega
      rw [He.out]; exact Hx.out
    case measure => simp [intOf]; omega
  ·obtain rfl : k = pd.length := by omega
   have Hpd := Lib.hid (show ∀ e ∈ pd, inI e.1 0 7 = true by
    intro e he
    obtain ⟨j, hj, rfl⟩ := List.getElem_of_mem he
    exact hok.out j hj hj)
   have b2 := B1.trans (hbel.mono B1.size)
   have hVr := HV.out.below hbel (by omega)
   obtain ⟨v0, v1, v2, v3, v4, v5, v6, v7, v8⟩ := hVr.g9
   have Hr2 := Lib.hid (H1.out.next hbel)
   have Ht2 := Lib.hid (HT1.out.bl hbel)
   clear hVr hok hbel
   rcases e1 : ((rg.length : Int) != 6) with _ | _
   rotate_left
   ·have Hf := Lib.hid (show false = b by rw [← Hb.out]; exact (bk_no fun h => by have := h.r; simp only at this; rw [this] at e1; simp at e1).symm)
    go_wp2
    go_ret
    exact ⟨ret_bool Hf.out, b2⟩
   rcases e2 : ((hm.length : Int) != 2) with _ | _
   rotate_left
   ·have Hf := Lib.hid (show false = b by rw [← Hb.out]; exact (bk_no fun h => by have := h.h; simp only at this; rw [this] at e2; simp at e2).symm)
    go_wp2
    go_ret
    exact ⟨ret_bool Hf.out, b2⟩
   by_cases e3 : (20 : Int) < pd.length
   ·have Hf := Lib.hid (show false = b by rw [← Hb.out]; exact (bk_no fun h => by have := h.q; simp only at this; omega).symm)
    go_wp2
    go_ret
    exact ⟨ret_bool Hf.out, b2⟩
   go_wp2_with fail
   refine (dirOk_impl A4 dr.length c4 dr Hz.out _ Ht2.out (by omega) Hr2.out.2.2.2).mono ?_
   rintro e w3 ⟨rfl, hb3⟩
   have b3 := b2.trans (hb3.mono b2.size)
   have u4 := keep1 hb3 v4 (Nat.le_refl _)
   have u5 := keep1 hb3 v5 (Nat.le_refl _)
   have u6 := keep1 hb3 v6 (Nat.le_refl _)
   have u7 := keep1 hb3 v7 (Nat.le_refl _)
   have u8 := keep1 hb3 v8 (Nat.le_refl _)
   clear v0 v1 v2 v3 v4 v5 v6 v7 v8 hb3
   rcases e4 : dirOkB dr with _ | _
   ·have Hf := Lib.hid (show false = b by rw [← Hb.out]; exact (bk_no fun h => by have := h.d; simp only at this; rw [this] at e4; cases e4).symm)
    go_wp2
    go_ret
    exact ⟨ret_bool Hf.out, b3⟩
   rcases e5 : inI bs 0 sf with _ | _
   ·have Hf := Lib.hid (show false = b by rw [← Hb.out]; exact (bk_no fun h => by have := h.b; simp only at this; rw [this] at e5; cases e5).symm)
    go_wp2_with (go_at_call 55; refine (within_any _ _ _ _).mono ?_; rintro e w' ⟨rfl, rfl⟩)
    go_ret
    exact ⟨ret_bool Hf.out, b3⟩
   have e5' := inI_t.1 e5
   rcases e6 : inI sf 0 sq with _ | _
   ·have Hf := Lib.hid (show false = b by rw [← Hb.out]; exact (bk_no fun h => by have h1 := h.f; have h2 := inI_t.1 h.b; have := inI_f.1 e6; simp only at h1 h2; omega).symm)
    go_wp2_with (go_at_call 55; refine (within_any _ _ _ _).mono ?_; rintro e w' ⟨rfl, rfl⟩)
    go_ret
    exact ⟨ret_bool Hf.out, b3⟩
   have e6' := inI_t.1 e6
   by_cases e7 : (1000000 : Int) < sq
   ·have Hf := Lib.hid (show false = b by rw [← Hb.out]; exact (bk_no fun h => by have h1 := h.m; simp only at h1; omega).symm)
    go_wp2_with (go_at_call 55; refine (within_any _ _ _ _).mono ?_; rintro e w' ⟨rfl, rfl⟩)
    go_ret
    exact ⟨ret_bool Hf.out, b3⟩
   by_cases e8 : bs + 6 < sq
   ·have Hf := Lib.hid (show false = b by rw [← Hb.out]; exact (bk_no fun h => by have h1 := h.s; simp only at h1; omega).symm)
    go_wp2_with (go_at_call 55; refine (within_any _ _ _ _).mono ?_; rintro e w' ⟨rfl, rfl⟩)
    go_ret
    exact ⟨ret_bool Hf.out, b3⟩
   rcases e9 : inI at_ 0 1 with _ | _
   ·have Hf := Lib.hid (show false = b by rw [← Hb.out]; exact (bk_no fun h => by have := h.a; simp only at this; rw [this] at e9; cases e9).symm)
    go_wp2_with (go_at_call 55; refine (within_any _ _ _ _).mono ?_; rintro e w' ⟨rfl, rfl⟩)
    go_ret
    exact ⟨ret_bool Hf.out, b3⟩
   have n6 : rg.length = 6 := by have : (rg.length : Int) = 6 := by simpa using e1
                                 omega
   have n2 : hm.length = 2 := by have : (hm.length : Int) = 2 := by simpa using e2
                                 omega
   have Hyes := Lib.hid (show (df = 0 ∨ (bs < df ∧ df ≤ sq)) → true = b from fun hc => by rw [← Hb.out]; exact (bk_yes ⟨Hpd.out, n6, n2, by simp only; omega, e4, e5, by simp only; omega, by simp only; omega, by simp only; omega, e9, hc⟩).symm)
   rcases e10 : ((df : Int) == 0) with _ | _
   rotate_left
   ·have Hf := Lib.hid (Hyes.out (.inl (by simpa using e10)))
    go_wp2_with (go_at_call 55; refine (within_any _ _ _ _).mono ?_; rintro e w' ⟨rfl, rfl⟩)
    go_ret
    exact ⟨ret_bool Hf.out, b3⟩
   by_cases e11 : bs < df
   rotate_left
   ·have Hf := Lib.hid (show false = b by rw [← Hb.out]; exact (bk_no fun h => by have h1 := h.c; simp only at h1; simp at e10; omega).symm)
    go_wp2_with (go_at_call 55; refine (within_any _ _ _ _).mono ?_; rintro e w' ⟨rfl, rfl⟩)
    go_ret
    exact ⟨ret_bool Hf.out, b3⟩
   by_cases e12 : df ≤ sq
   rotate_left
   ·have Hf := Lib.hid (show false = b by rw [← Hb.out]; exact (bk_no fun h => by have h1 := h.c; simp only at h1; simp at e10; omega).symm)
    go_wp2_with (go_at_call 55; refine (within_any _ _ _ _).mono ?_; rintro e w' ⟨rfl, rfl⟩)
    go_ret
    exact ⟨ret_bool (by first | exact Hf.out | (rw [← Hf.out]; simpa using e12)), b3⟩
   have Hf := Lib.hid (Hyes.out (.inr ⟨e11, e12⟩))
   go_wp2_with (go_at_call 55; refine (within_any _ _ _ _).mono ?_; rintro e w' ⟨rfl, rfl⟩)
   go_ret
   exact ⟨ret_bool Hf.out, b3⟩

end Go.Proofs.YtghgafbfpejinaaGreatDoor
