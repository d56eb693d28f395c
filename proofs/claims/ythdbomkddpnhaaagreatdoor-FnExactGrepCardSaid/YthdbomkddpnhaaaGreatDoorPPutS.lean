/- l28Put of the reference: the insertion. -/
import Derived.Test.YthdbomkddpnhaaaGreatDoorPFindC
import Derived.Test.YthdbomkddpnhaaaGreatDoorPCpE
namespace Go.Proofs.YthdbomkddpnhaaaGreatDoor
open Go Go.RowKit

/-- What is still to come of an insertion. -/
def putL (s : ByteArray) : Bool → List ByteArray → List ByteArray
 | true, l => l
 | false, [] => [s]
 | false, x :: l => if s.data.toList < x.data.toList then s :: x :: l else x :: putL s false l
theorem putL_is (s : ByteArray) : ∀ l, putL s false l = putT l s
 | [] => rfl
 | x :: l => by
  have ih := putL_is s l
  unfold putL
  unfold putT at ih ⊢
  by_cases h : s.data.toList < x.data.toList
  ·rw [if_pos h, List.takeWhile_cons, List.dropWhile_cons]; simp [h]
  ·rw [if_neg h, ih, List.takeWhile_cons, List.dropWhile_cons]; simp [h]
theorem putL_true (s : ByteArray) (l : List ByteArray) : putL s true l = l := by unfold putL; rfl
theorem putL_nil (s : ByteArray) : putL s false [] = [s] := rfl
theorem putL_lt {s x : ByteArray} {l : List ByteArray} (h : s.data.toList < x.data.toList) : putL s false (x :: l) = s :: x :: l := by unfold putL; rw [if_pos h]
theorem putL_ge {s x : ByteArray} {l : List ByteArray} (h : ¬ s.data.toList < x.data.toList) : putL s false (x :: l) = x :: putL s false l := by conv => lhs; unfold putL; rw [if_neg h]
theorem bless_dec (s x : ByteArray) : Op.bytesLess s.toList x.toList = decide (s.data.toList < x.data.toList) := by
 rw [Go.Proofs.bytesLess_eq, ByteArray.toList_eq, ByteArray.toList_eq]
theorem drop_atT {l : List ByteArray} {i : Nat} (h : i < l.length) : l.drop i = l[i] :: l.drop (i + 1) := List.drop_eq_getElem_cons h

set_option maxRecDepth 100000 in
set_option maxHeartbeats 4000000 in
theorem l28Put_any (l : List ByteArray) (s : ByteArray) (A : Option Addr) (n c B : Nat) (hn : n ≤ 100000) (w : World) (hr : Reads w B 1 A n (SS l)) (hBs : B ≤ w.heap.size) :
  Calls Tryz.prog 179 #[.slice A n c, .string s] w (FPost w (putT l s)) := by
 have hl : l.length = n := by have := hr.1; unfold SS at this; simpa using this
 have HL := Lib.hid hl
 have Hr := Lib.hid (hr.more hBs)
 clear hr hl
 obtain ⟨W1, hW1⟩ : ∃ W1, w.alloc (.cells #[] 9) = W1 := ⟨_, rfl⟩
 have B1 : Below w.heap.size w W1 := by rw [← hW1]; exact belA (bel0 w) _
 have own1 : W1.ownsRow w.heap.size 9 1 (.slice (some ⟨w.heap.size, 0, none⟩) 0 0) 0 [] := by rw [← hW1]; exact World.ownsRow_lit w #[] 0 (Nat.le_refl _) (by unfold maxLen; omega) rfl
 have HW1 := Lib.hid hW1
 clear hW1
 go_enter Tryz.func179, Tryz.ntmps179
 go_wp2_with fail
 try rw [HW1.out]
 go_loopw [5, 6, 7] (fun x u i wr => ∃ (k : Nat) (b : Bool) (o : List ByteArray), k ≤ n ∧ u = .bool b ∧ i = .int .i64 k ∧ o.length ≤ k + b.toNat ∧ Hid (o ++ putL s b (l.drop k) = putT l s) ∧ x.ownBlock ≠ none ∧ wr.ownsRow w.heap.size 9 1 x o.length (SS o) ∧ Below w.heap.size w wr)
  (fun _ _ i _ => n - (intOf i).toNat)
 case atStart => exact ⟨0, false, [], by omega, rfl, rfl, by simp, by rw [List.drop_zero, List.nil_append]; exact putL_is s l, (by intro h; cases h), own1, B1⟩
 case round =>
  obtain ⟨k, b, o, hk, rfl, rfl, ho, hst, hnn, own, hbel⟩ := hrel
  have Own := Lib.hid own
  have Hnn := Lib.hid hnn
  have Hst := Lib.hid hst.out
  clear own hnn own1 hst
  by_cases hlt : k < n
  ·have hkl : k < l.length := by have := HL.out; omega
   have q2 : (0 : Int) ≤ ↑k := by omega
   have q3 : (↑k : Int) < ↑n := by omega
   have Hd := Lib.hid (drop_atT hkl)
   obtain ⟨hk', ad, rfl, hlt2, hcw⟩ := reads_str Hr.out hlt
   obtain ⟨x, hx⟩ : ∃ x, l[k] = x := ⟨_, rfl⟩
   rw [hx] at hcw
   have Hd := Lib.hid (show l.drop k = x :: l.drop (k + 1) by rw [Hd.out, hx])
   clear hx
   have hc := keep1 hbel hcw (Nat.le_refl _)
   cases b
   case true =>
    simp only [Bool.toNat_true] at ho
    have hst := Hst.out
    rw [putL_true, Hd.out] at hst
    have Hst := Lib.hid (show o ++ [x] ++ putL s true (l.drop (k + 1)) = putT l s by rw [putL_true, List.append_assoc]; exact hst)
    clear hst
    go_wp2_with (at_builtin; refine wpList_app _ rfl _ _ _ rfl Tryz.el_str (Own.out.alloc _) rfl (reads_new _ _ _ _ 1 (by rfl)) rfl (by simp [Value.oneCell']) (max_small (by omega)) (by omega) (by have := hbel.size; simp; omega) ?_; intro v5 w5 own5 hg5 hor5 hb5; have Hnn5 := Lib.hid (blk_or Hnn.out hor5); have bel5 := (belA hbel (.cells #[.string x] 9)).trans hb5; have Own5 := Lib.hid own5; clear own5 hg5 hor5)
    first | (refine ⟨⟨k + 1, true, o ++ [x], by omega, rfl, by go_num, by simp; omega, ?_, Hnn5.out, ?_, bel5⟩, by simp [intOf]; omega⟩; exact Hst; rw [List.length_append, SS_append]; exact Own5.out) | (go_roundw; case rel => (refine ⟨k + 1, true, o ++ [x], by omega, rfl, by go_num, by simp; omega, ?_, Hnn5.out, ?_, bel5⟩; exact Hst; rw [List.length_append, SS_append]; exact Own5.out); case measure => (simp [intOf]; omega))
   case false =>
    simp only [Bool.toNat_false] at ho
    by_cases hs : s.data.toList < x.data.toList
    ·have hst := Hst.out
     rw [Hd.out, putL_lt hs] at hst
     have hbl : Op.bytesLess s.toList x.toList = true := by rw [bless_dec]; exact decide_eq_true hs
     have Hst := Lib.hid (show o ++ [s] ++ [x] ++ putL s true (l.drop (k + 1)) = putT l s by rw [putL_true, List.append_assoc, List.append_assoc]; exact hst)
     clear hst
     have hca := keep1 (belA hbel (.cells #[.string s] 9)) hcw (Nat.le_refl _)
     go_wp2_with (first | (at_builtin; refine wpList_app _ rfl _ _ _ rfl Tryz.el_str (Own.out.alloc _) rfl (reads_new _ _ _ _ 1 (by rfl)) rfl (by simp [Value.oneCell']) (max_small (by omega)) (by omega) (by have := hbel.size; simp; omega) ?_; intro v5 w5 own5 hg5 hor5 hb5; have Hnn5 := Lib.hid (blk_or Hnn.out hor5); have bel5 := (belA hbel (.cells #[.string s] 9)).trans hb5; have Own5 := Lib.hid own5; clear own5 hg5 hor5; have hc5 := keep1 bel5 hcw (Nat.le_refl _)) | (at_builtin; refine wpList_app _ rfl _ _ _ rfl Tryz.el_str (Own5.out.alloc _) rfl (reads_new _ _ _ _ 1 (by rfl)) rfl (by simp [Value.oneCell']) (max_small (by omega)) (by omega) (by have := bel5.size; simp; omega) ?_; intro v6 w6 own6 hg6 hor6 hb6; have Hnn6 := Lib.hid (blk_or Hnn5.out hor6); have bel6 := (belA bel5 (.cells #[.string x] 9)).trans hb6; have Own6 := Lib.hid own6; clear own6 hg6 hor6))
     first | (refine ⟨⟨k + 1, true, o ++ [s] ++ [x], by omega, rfl, by go_num, by simp; omega, ?_, Hnn6.out, ?_, bel6⟩, by simp [intOf]; omega⟩; exact Hst; rw [List.length_append, List.length_append, SS_append, SS_append]; exact Own6.out) | (go_roundw; case rel => (refine ⟨k + 1, true, o ++ [s] ++ [x], by omega, rfl, by go_num, by simp; omega, ?_, Hnn6.out, ?_, bel6⟩; exact Hst; rw [List.length_append, List.length_append, SS_append, SS_append]; exact Own6.out); case measure => (simp [intOf]; omega))
    ·have hst := Hst.out
     rw [Hd.out, putL_ge hs] at hst
     have hbl : Op.bytesLess s.toList x.toList = false := by rw [bless_dec]; exact decide_eq_false hs
     have Hst := Lib.hid (show o ++ [x] ++ putL s false (l.drop (k + 1)) = putT l s by rw [List.append_assoc]; exact hst)
     clear hst
     go_wp2_with (at_builtin; refine wpList_app _ rfl _ _ _ rfl Tryz.el_str (Own.out.alloc _) rfl (reads_new _ _ _ _ 1 (by rfl)) rfl (by simp [Value.oneCell']) (max_small (by omega)) (by omega) (by have := hbel.size; simp; omega) ?_; intro v5 w5 own5 hg5 hor5 hb5; have Hnn5 := Lib.hid (blk_or Hnn.out hor5); have bel5 := (belA hbel (.cells #[.string x] 9)).trans hb5; have Own5 := Lib.hid own5; clear own5 hg5 hor5)
     first | (refine ⟨⟨k + 1, false, o ++ [x], by omega, rfl, by go_num, by simp; omega, ?_, Hnn5.out, ?_, bel5⟩, by simp [intOf]; omega⟩; exact Hst; rw [List.length_append, SS_append]; exact Own5.out) | (go_roundw; case rel => (refine ⟨k + 1, false, o ++ [x], by omega, rfl, by go_num, by simp; omega, ?_, Hnn5.out, ?_, bel5⟩; exact Hst; rw [List.length_append, SS_append]; exact Own5.out); case measure => (simp [intOf]; omega))
  ·obtain rfl : k = n := by omega
   have hst := Hst.out
   rw [List.drop_eq_nil_of_le (by have := HL.out; omega)] at hst
   cases b
   case true =>
    rw [putL_true, List.append_nil] at hst
    simp only [Bool.toNat_true] at ho
    go_wp2
    go_ret
    exact ⟨_, rfl, Hnn.out, by rw [← hst]; exact Own.out, hbel⟩
   case false =>
    rw [putL_nil] at hst
    simp only [Bool.toNat_false] at ho
    go_wp2_with (at_builtin; refine wpList_app _ rfl _ _ _ rfl Tryz.el_str (Own.out.alloc _) rfl (reads_new _ _ _ _ 1 (by rfl)) rfl (by simp [Value.oneCell']) (max_small (by omega)) (by omega) (by have := hbel.size; simp; omega) ?_; intro v5 w5 own5 hg5 hor5 hb5; have Hnn5 := Lib.hid (blk_or Hnn.out hor5); have bel5 := (belA hbel (.cells #[.string s] 9)).trans hb5; have Own5 := Lib.hid own5; clear own5 hg5 hor5)
    go_wp2
    go_ret
    exact ⟨_, rfl, Hnn5.out, by rw [← hst, List.length_append, SS_append]; exact Own5.out, bel5⟩

end Go.Proofs.YthdbomkddpnhaaaGreatDoor

