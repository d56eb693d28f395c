/- Records, homes, looking. -/
import Derived.Test.YtghgafbfpejinaaGreatDoorRBase
import Derived.Deep.RegionHeld3
import Derived.Test.YtghgafbfpejinaaGreatDoorRDp
namespace Go.Proofs.YtghgafbfpejinaaGreatDoor
open Go Go.RowKit

/-- A text behind its sum. -/
def sumB (s : ByteArray) : ByteArray := fix4 (crcB s) ++ s
theorem sumB_size (s : ByteArray) : (sumB s).size = s.size + 4 := by rw [sumB, ByteArray.size_append, fix4_size]; omega

theorem summed_any (s : ByteArray) (hs : s.size ≤ 1000000000) (w : World) :
  Calls Tryz.prog 59 #[.string s] w fun e w' => e = .returned (.string (sumB s)) ∧ Below w.heap.size w w' := by
 have hb := crcB_bd s
 have hz := fix4_size (crcB s)
 go_enter Tryz.func59, Tryz.ntmps59
 go_wp2_with (first
  | (go_at_call 95; refine (crc_impl s hs _).mono ?_; rintro e w' ⟨rfl, rfl⟩)
  | (go_at_call 98; refine (fixed_impl _ hb.1 hb.2 _).mono ?_; rintro e w1 ⟨rfl, hb1⟩))
 go_ret
 exact ⟨rfl, hb1⟩

def recB (q : Int) (t : ByteArray) : ByteArray := str [114] ++ varB q ++ t
theorem recB_size (q : Int) (t : ByteArray) : (recB q t).size ≤ 8 + t.size := by
 have := varB_size q
 rw [recB, ByteArray.size_append, ByteArray.size_append, str_size, List.length_singleton]; omega
def showRecB (q : Int) (t : ByteArray) : ByteArray := if inI q 1 1000000 && decide (t.size ≤ 80) then sumB (recB q t) else str []

set_option maxHeartbeats 1000000 in
theorem showRec_impl (q : Int) (t : ByteArray) (w : World) (ht : t.size ≤ 9223372036854775807) :
  Calls Tryz.prog 36 #[.agg #[.int .i64 q, .string t]] w fun e w' => e = .returned (.string (showRecB q t)) ∧ Below w.heap.size w w' := by
 cases hin : inI q 1 1000000
 ·have Hf := Lib.hid (show showRecB q t = str [] by unfold showRecB; rw [hin]; rfl)
  go_enter Tryz.func36, Tryz.ntmps36
  go_wp2_with (go_at_call 55; refine (within_any _ _ _ _).mono ?_; rintro e w' ⟨rfl, rfl⟩)
  go_ret
  exact ⟨ret_str Hf.out.symm, (Below.refl _ _).alloc (Nat.le_refl _) _⟩
 ·by_cases hl : t.size ≤ 80
  ·have Hf := Lib.hid (show showRecB q t = sumB (recB q t) by unfold showRecB; rw [hin]; simp [hl])
   have hv := varB_size q
   have n1 : ¬ 9223372036854775807 < 1 + (varB q).size := by omega
   have n2 : ¬ 9223372036854775807 < 1 + (varB q).size + t.size := by omega
   go_enter Tryz.func36, Tryz.ntmps36
   go_wp2_with (go_at_call 55; refine (within_any _ _ _ _).mono ?_; rintro e w' ⟨rfl, rfl⟩)
   go_region_held3 (fun w' => w'.cell? ⟨w.heap.size, 0, none⟩ = some (.int .i64 q) ∧ w'.cell? ⟨w.heap.size, 1, none⟩ = some (.string t))
    (first | go_keep | (refine ⟨keep1 hb2 ?_, keep1 hb2 ?_⟩ <;> go_keep) | (refine ⟨keep1 hb1 ?_, keep1 hb1 ?_⟩ <;> go_keep))
    (first
     | (go_at_call 57; refine (var_impl _ _).mono ?_; rintro e w1 ⟨rfl, hb1⟩)
     | (go_at_call 59; refine (summed_any _ (by simp only [ByteArray.size_append, str1_size]; omega) _).mono ?_; rintro e w2 ⟨rfl, hb2⟩))
   go_wp2
   go_ret
   exact ⟨ret_str Hf.out.symm, belN (belN (belA (bel0 w) _).drew hb1) hb2⟩
  ·have Hf := Lib.hid (show showRecB q t = str [] by unfold showRecB; rw [hin]; simp [hl])
   go_enter Tryz.func36, Tryz.ntmps36
   go_wp2_with (go_at_call 55; refine (within_any _ _ _ _).mono ?_; rintro e w' ⟨rfl, rfl⟩)
   go_ret
   exact ⟨ret_str Hf.out.symm, (Below.refl _ _).alloc (Nat.le_refl _) _⟩
set_option maxHeartbeats 1000000 in
theorem showRec_spec (q : Int) (t : ByteArray) (w : World) (ht : t.size ≤ 9223372036854775807) :
  Calls Tryz.prog 46 #[.agg #[.int .i64 q, .string t]] w fun e w' => e = .returned (.string (showRecB q t)) ∧ Below w.heap.size w w' := by
 cases hin : inI q 1 1000000
 ·have Hf := Lib.hid (show showRecB q t = str [] by unfold showRecB; rw [hin]; rfl)
  go_enter Tryz.func46, Tryz.ntmps46
  go_wp2_with (go_at_call 43; refine (l1In_any _ _ _ _).mono ?_; rintro e w' ⟨rfl, rfl⟩)
  go_ret
  exact ⟨ret_str Hf.out.symm, (Below.refl _ _).alloc (Nat.le_refl _) _⟩
 ·by_cases hl : t.size ≤ 80
  ·have Hf := Lib.hid (show showRecB q t = sumB (recB q t) by unfold showRecB; rw [hin]; simp [hl])
   have hv := varB_size q
   have n1 : ¬ 9223372036854775807 < 1 + (varB q).size := by omega
   have n2 : ¬ 9223372036854775807 < 1 + (varB q).size + t.size := by omega
   go_enter Tryz.func46, Tryz.ntmps46
   go_wp2_with (go_at_call 43; refine (l1In_any _ _ _ _).mono ?_; rintro e w' ⟨rfl, rfl⟩)
   go_region_held3 (fun w' => w'.cell? ⟨w.heap.size, 0, none⟩ = some (.int .i64 q) ∧ w'.cell? ⟨w.heap.size, 1, none⟩ = some (.string t))
    (first | go_keep | (refine ⟨keep1 hb1 ?_, keep1 hb1 ?_⟩ <;> go_keep))
    (first
     | (go_at_call 86; refine (var_spec _ _).mono ?_; rintro e w1 ⟨rfl, hb1⟩))
   have hc := crcB_bd (recB q t)
   have hcz := fix4_size (crcB (recB q t))
   have hz : (recB q t).size ≤ 1000 := by have := recB_size q t; omega
   unfold recB str at hc hcz hz
   go_wp2_with (first
    | (go_at_call 88; refine (crc_spec _ (by omega) _).mono ?_; rintro e w' ⟨rfl, rfl⟩)
    | (go_at_call 87; refine (fixed_spec _ hc.1 hc.2 _).mono ?_; rintro e w2 ⟨rfl, hb2⟩))
   go_ret
   exact ⟨ret_str Hf.out.symm, belN (belN (belA (bel0 w) _).drew hb1) hb2⟩
  ·have Hf := Lib.hid (show showRecB q t = str [] by unfold showRecB; rw [hin]; simp [hl])
   go_enter Tryz.func46, Tryz.ntmps46
   go_wp2_with (go_at_call 43; refine (l1In_any _ _ _ _).mono ?_; rintro e w' ⟨rfl, rfl⟩)
   go_ret
   exact ⟨ret_str Hf.out.symm, (Below.refl _ _).alloc (Nat.le_refl _) _⟩

/-- A text behind its length. -/
def pieceB (s : ByteArray) : ByteArray := varB (s.size : Int) ++ s
theorem pieceB_size (s : ByteArray) : (pieceB s).size ≤ 7 + s.size := by have := varB_size (s.size : Int); rw [pieceB, ByteArray.size_append]; omega
def homeF (q : Int) (ds l : List EntD) : ByteArray := l.foldl (fun a e => a ++ varB e.i ++ varB e.d ++ pieceB e.s) (str [104] ++ varB q ++ varB (ds.length : Int))
theorem homeF_nil (q : Int) (ds : List EntD) : homeF q ds (ds.take 0) = str [104] ++ varB q ++ varB (ds.length : Int) := by rw [List.take_zero]; rfl
theorem homeF_succ (q : Int) (ds : List EntD) (k : Nat) (h : k < ds.length) : homeF q ds (ds.take (k + 1)) = homeF q ds (ds.take k) ++ varB ds[k].i ++ varB ds[k].d ++ pieceB ds[k].s := by
 unfold homeF; rw [List.take_succ_eq_append_getElem h, List.foldl_append]; rfl
theorem homeF_fold : ∀ (l : List EntD) (a : ByteArray), (∀ e ∈ l, e.s.size ≤ 24) → (l.foldl (fun a e => a ++ varB e.i ++ varB e.d ++ pieceB e.s) a).size ≤ a.size + 45 * l.length
 | [], a, _ => by simp
 | e :: l, a, h => by
  have h1 := homeF_fold l (a ++ varB e.i ++ varB e.d ++ pieceB e.s) (fun x hx => h x (by simp [hx]))
  have h2 := h e (by simp)
  have h3 := varB_size e.i
  have h4 := varB_size e.d
  have h5 := pieceB_size e.s
  rw [ByteArray.size_append, ByteArray.size_append, ByteArray.size_append] at h1
  rw [List.foldl_cons, List.length_cons]; omega
theorem homeF_size (q : Int) (ds l : List EntD) (_h12 : ds.length ≤ 12) (h : ∀ e ∈ l, e.s.size ≤ 24) : (homeF q ds l).size ≤ 15 + 45 * l.length := by
 have h1 := homeF_fold l (str [104] ++ varB q ++ varB (ds.length : Int)) h
 have h3 := varB_size q
 have h4 := varB_size (ds.length : Int)
 rw [ByteArray.size_append, ByteArray.size_append, str_size, List.length_singleton] at h1
 unfold homeF; omega
theorem homeBody_size {n : Nat} (q : Int) (ds : List EntD) (hl : ds.length = n) (h12 : n ≤ 12) (h : ∀ e ∈ ds, e.s.size ≤ 24) : (homeF q ds ds).size ≤ 1000 := by
 have := homeF_size q ds ds (by omega) h
 omega
noncomputable def showHomeB (q : Int) (ds : List EntD) : ByteArray := if inI q 0 1000000 && dirOkB ds then sumB (homeF q ds ds) else str []
theorem s_names {ds : List EntD} (sm : szS ds ≤ 1048576) : ∀ e ∈ ds, e.s.size ≤ 2000000 := fun e he => by have := szS_mem ds e he; omega
theorem s_short {ds : List EntD} (h : dirOkB ds = true) : ∀ e ∈ ds, e.s.size ≤ 24 := fun e he => by
 obtain ⟨k, hk, rfl⟩ := List.getElem_of_mem he
 obtain ⟨_, h2, _⟩ := (dirP_iff.1 (dirOkB_iff.1 h)).2 k hk
 obtain ⟨_, _, h3, _⟩ := nameOk_dec (entOk_parts h2).1
 exact h3

set_option maxHeartbeats 1000000 in
theorem piece_impl (s : ByteArray) (hs : s.size ≤ 1000000000) (w : World) :
  Calls Tryz.prog 58 #[.string s] w fun e w' => e = .returned (.string (pieceB s)) ∧ Below w.heap.size w w' := by
 have hv := varB_size (s.size : Int)
 have n1 : ¬ 9223372036854775807 < (varB (s.size : Int)).size + s.size := by omega
 go_enter Tryz.func58, Tryz.ntmps58
 go_wp2_with fail
 refine (var_impl _ _).mono ?_
 rintro e w1 ⟨rfl, hb1⟩
 go_wp2
 go_ret
 exact ⟨rfl, hb1⟩

set_option maxHeartbeats 1000000 in
theorem piece_spec (s : ByteArray) (hs : s.size ≤ 1000000000) (w : World) :
  Calls Tryz.prog 89 #[.string s] w fun e w' => e = .returned (.string (pieceB s)) ∧ Below w.heap.size w w' := by
 have hv := varB_size (s.size : Int)
 have n1 : ¬ 9223372036854775807 < (varB (s.size : Int)).size + s.size := by omega
 go_enter Tryz.func89, Tryz.ntmps89
 go_wp2_with fail
 refine (var_spec _ _).mono ?_
 rintro e w1 ⟨rfl, hb1⟩
 go_wp2
 go_ret
 exact ⟨rfl, hb1⟩

set_option maxRecDepth 100000 in
set_option maxHeartbeats 4000000 in
theorem showHome_impl0 (q : Int) (v : Value) (ds : List EntD) (hzs : ∀ e ∈ ds, e.s.size ≤ 2000000) (hsn : ds.length ≤ 1048576) (w : World) (hT : Tab w) (h : IsS w v ds) :
  Calls Tryz.prog 22 #[.int .i64 q, v] w fun e w' => e = .returned (.string (showHomeB q ds)) ∧ Below w.heap.size w w' := by
 have HT := Lib.hid hT
 obtain ⟨A, c, rfl, hr⟩ := h
 have Hr := Lib.hid hr
 obtain ⟨n, hn⟩ : ∃ n, ds.length = n := ⟨_, rfl⟩
 have HL := Lib.hid hn
 rw [hn] at Hr hsn ⊢
 clear hr hn hT
 rcases hin : inI q 0 1000000 with _ | _
 ·have Hf := Lib.hid (show showHomeB q ds = str [] by unfold showHomeB; rw [hin]; rfl)
  go_enter Tryz.func22, Tryz.ntmps22
  go_wp2_with (go_at_call 55; refine (within_any _ _ _ _).mono ?_; rintro e w' ⟨rfl, rfl⟩)
  go_ret
  exact ⟨ret_str Hf.out.symm, bel0 w⟩
 rcases hok : dirOkB ds with _ | _
 ·have Hf := Lib.hid (show showHomeB q ds = str [] by unfold showHomeB; rw [hok]; simp)
  have Hok := Lib.hid hok
  clear hok
  go_enter Tryz.func22, Tryz.ntmps22
  go_wp2_with (first
   | (go_at_call 55; refine (within_any _ _ _ _).mono ?_; rintro e w' ⟨rfl, rfl⟩)
   | (go_at_call 56; refine (dirOk_impl _ _ _ _ hzs _ HT.out (by omega) Hr.out).mono ?_; rintro e w1 ⟨rfl, hb1⟩; rw [Hok.out]))
  go_ret
  exact ⟨ret_str Hf.out.symm, hb1⟩
 have h12 : n ≤ 12 := by have := dir12 hok; have := HL.out; omega
 have Hf := Lib.hid (show showHomeB q ds = sumB (homeF q ds ds) by unfold showHomeB; rw [hin, hok]; rfl)
 have Hok := Lib.hid hok
 clear hok
 have hv1 := varB_size q
 have hv2 := varB_size (n : Int)
 have m1 : ¬ 9223372036854775807 < 1 + (varB q).size := by omega
 have m2 : ¬ 9223372036854775807 < 1 + (varB q).size + (varB (n : Int)).size := by omega
 have hs1 := str1_size 104
 go_enter Tryz.func22, Tryz.ntmps22
 go_wp2_with (first
  | (go_at_call 55; refine (within_any _ _ _ _).mono ?_; rintro e w' ⟨rfl, rfl⟩)
  | (go_at_call 56; refine (dirOk_impl _ _ _ _ hzs _ HT.out (by omega) Hr.out).mono ?_; rintro e w1 ⟨rfl, hb1⟩; rw [Hok.out])
  | (go_at_call 57; refine (var_impl _ _).mono ?_; rintro e w9 ⟨rfl, hb9⟩; (first | have hB2 := belN hB1 hb9 | have hB1 := belN hb1 hb9)))
 clear hb9
 go_loopw [5, 25] (fun v i wr => ∃ (k : Nat), k ≤ n ∧ i = .int .i64 k ∧ v = .string (homeF q ds (ds.take k)) ∧ Below w.heap.size w wr)
  (fun _ i _ => n - (intOf i).toNat)
 case atStart => exact ⟨0, by omega, rfl, by rw [homeF_nil, HL.out]; rfl, hB2⟩
 case round =>
  obtain ⟨k, hk, rfl, rfl, hbel⟩ := hrel
  have belr := hbel
  by_cases hlt : k < n
  ·obtain ⟨hkx, b, o, rfl, hadb, z0, z1, z2, z3⟩ := reads_ent (Hr.out.below hbel) hlt
   have q0 : (0 : Int) ≤ ↑k := by omega
   have q1 : (↑k : Int) < ↑n := by omega
   have hsh := s_short Hok.out _ (List.getElem_mem hkx)
   have Hst := Lib.hid (homeF_succ q ds k hkx)
   have hsz := homeF_size q ds (ds.take k) (by rw [HL.out]; exact h12) (fun e he => s_short Hok.out e (List.mem_of_mem_take he))
   rw [List.length_take] at hsz
   have hsz2 : (homeF q ds (ds.take k)).size ≤ 1000 := by omega
   obtain ⟨e, he⟩ : ∃ e, ds[k] = e := ⟨_, rfl⟩
   rw [he] at z0 z1 z2 z3 hsh Hst
   clear he hsz
   obtain ⟨eh, ei, es, ed⟩ := e
   simp only at z0 z1 z2 z3 hsh Hst
   obtain ⟨F, hF⟩ : ∃ F, homeF q ds (ds.take k) = F := ⟨_, rfl⟩
   rw [hF] at hsz2 Hst ⊢
   clear hF
   have v1 := varB_size ei
   have v2 := varB_size ed
   have v3 := pieceB_size es
   have u1 : ¬ 9223372036854775807 < F.size + (varB ei).size := by omega
   have u2 : ¬ 9223372036854775807 < F.size + (varB ei).size + (varB ed).size := by omega
   have u3 : ¬ 9223372036854775807 < F.size + (varB ei).size + (varB ed).size + (pieceB es).size := by omega
   have hB := Blk.new' wr 66 #[.int .i64 eh, .int .i64 ei, .string es, .int .i64 ed] wr.heap.size
   have y1 := hB.get (x := .int .i64 ei) 1 rfl
   have y2 := hB.get (x := .string es) 2 rfl
   have y3 := hB.get (x := .int .i64 ed) 3 rfl
   have nb : b ≠ wr.heap.size := by have := hb1.size; have := hbel.size; omega
   go_wp2_with fail
   go_region_held3 (fun w' => w'.cell? ⟨wr.heap.size, 1, none⟩ = some (.int .i64 ei) ∧ w'.cell? ⟨wr.heap.size, 2, none⟩ = some (.string es) ∧ w'.cell? ⟨wr.heap.size, 3, none⟩ = some (.int .i64 ed))
    (first | go_keep | (refine ⟨keep1 hb9 ?_, keep1 hb9 ?_, keep1 hb9 ?_⟩ <;> go_keep))
    (first
     | (go_at_call 57; refine (var_impl _ _).mono ?_; rintro e w9 ⟨rfl, hb9⟩; (first | have hB3 := belN hB2 hb9 | have hB2 := belN hB1 hb9 | have hB1 := belN (belA (bel0 wr) (.cells #[.int .i64 eh, .int .i64 ei, .string es, .int .i64 ed] 66)).drew hb9))
     | (go_at_call 58; refine (piece_impl es (by omega) _).mono ?_; rintro e w9 ⟨rfl, hb9⟩; (first | have hB3 := belN hB2 hb9 | have hB2 := belN hB1 hb9 | have hB1 := belN (belA (bel0 wr) (.cells #[.int .i64 eh, .int .i64 ei, .string es, .int .i64 ed] 66)).drew hb9)))
   go_wp2
   go_roundw
   case rel => exact ⟨k + 1, by omega, by go_num, by rw [Hst.out], belN hbel hB3⟩
   case measure => simp [intOf]; omega
  ·obtain rfl : k = n := by omega
   have hcz := homeBody_size q ds HL.out h12 (s_short Hok.out)
   have Hend := Lib.hid (show homeF q ds ds = homeF q ds (ds.take k) by rw [List.take_of_length_le (by have := HL.out; omega)])
   rw [show homeF q ds (ds.take k) = homeF q ds ds from Hend.out.symm]
   obtain ⟨F, hF⟩ : ∃ F, homeF q ds ds = F := ⟨_, rfl⟩
   rw [hF] at hcz Hf
   rw [hF]
   clear hF
   go_wp2_with (go_at_call 59; refine (summed_any F (by omega) _).mono ?_; rintro e w8 ⟨rfl, hb8⟩)
   go_ret
   exact ⟨ret_str Hf.out.symm, belN belr hb8⟩

theorem showHome_impl (q : Int) (v : Value) (ds : List EntD) (sm : szS ds ≤ 1048576) (w : World) (hT : Tab w) (h : IsS w v ds) :
  Calls Tryz.prog 22 #[.int .i64 q, v] w fun e w' => e = .returned (.string (showHomeB q ds)) ∧ Below w.heap.size w w' :=
 showHome_impl0 q v ds (s_names sm) (by have := szS_n ds; omega) w hT h

set_option maxRecDepth 100000 in
set_option maxHeartbeats 4000000 in
theorem showHome_spec0 (q : Int) (v : Value) (ds : List EntD) (hzs : ∀ e ∈ ds, e.s.size ≤ 2000000) (hsn : ds.length ≤ 1048576) (w : World) (h : IsS w v ds) :
  Calls Tryz.prog 49 #[.int .i64 q, v] w fun e w' => e = .returned (.string (showHomeB q ds)) ∧ Below w.heap.size w w' := by
 obtain ⟨A, c, rfl, hr⟩ := h
 have Hr := Lib.hid hr
 obtain ⟨n, hn⟩ : ∃ n, ds.length = n := ⟨_, rfl⟩
 have HL := Lib.hid hn
 rw [hn] at Hr hsn ⊢
 clear hr hn
 rcases hin : inI q 0 1000000 with _ | _
 ·have Hf := Lib.hid (show showHomeB q ds = str [] by unfold showHomeB; rw [hin]; rfl)
  go_enter Tryz.func49, Tryz.ntmps49
  go_wp2_with (go_at_call 43; refine (l1In_any _ _ _ _).mono ?_; rintro e w' ⟨rfl, rfl⟩)
  go_ret
  exact ⟨ret_str Hf.out.symm, bel0 w⟩
 rcases hok : dirOkB ds with _ | _
 ·have Hf := Lib.hid (show showHomeB q ds = str [] by unfold showHomeB; rw [hok]; simp)
  have Hok := Lib.hid hok
  clear hok
  go_enter Tryz.func49, Tryz.ntmps49
  go_wp2_with (first
   | (go_at_call 43; refine (l1In_any _ _ _ _).mono ?_; rintro e w' ⟨rfl, rfl⟩)
   | (go_at_call 41; refine (dirOk_spec _ _ _ _ hzs _ (by omega) Hr.out).mono ?_; rintro e w1 ⟨rfl, hb1⟩; rw [Hok.out]))
  go_ret
  exact ⟨ret_str Hf.out.symm, hb1⟩
 have h12 : n ≤ 12 := by have := dir12 hok; have := HL.out; omega
 have Hf := Lib.hid (show showHomeB q ds = sumB (homeF q ds ds) by unfold showHomeB; rw [hin, hok]; rfl)
 have Hok := Lib.hid hok
 clear hok
 have hv1 := varB_size q
 have hv2 := varB_size (n : Int)
 have m1 : ¬ 9223372036854775807 < 1 + (varB q).size := by omega
 have m2 : ¬ 9223372036854775807 < 1 + (varB q).size + (varB (n : Int)).size := by omega
 have hs1 := str1_size 104
 go_enter Tryz.func49, Tryz.ntmps49
 go_wp2_with (first
  | (go_at_call 43; refine (l1In_any _ _ _ _).mono ?_; rintro e w' ⟨rfl, rfl⟩)
  | (go_at_call 41; refine (dirOk_spec _ _ _ _ hzs _ (by omega) Hr.out).mono ?_; rintro e w1 ⟨rfl, hb1⟩; rw [Hok.out])
  | (go_at_call 86; refine (var_spec _ _).mono ?_; rintro e w9 ⟨rfl, hb9⟩; (first | have hB2 := belN hB1 hb9 | have hB1 := belN hb1 hb9)))
 clear hb9
 go_loopw [5, 6] (fun v i wr => ∃ (k : Nat), k ≤ n ∧ i = .int .i64 k ∧ v = .string (homeF q ds (ds.take k)) ∧ Below w.heap.size w wr)
  (fun _ i _ => n - (intOf i).toNat)
 case atStart => exact ⟨0, by omega, rfl, by rw [homeF_nil, HL.out]; rfl, hB2⟩
 case round =>
  obtain ⟨k, hk, rfl, rfl, hbel⟩ := hrel
  have belr := hbel
  by_cases hlt : k < n
  ·obtain ⟨hkx, b, o, rfl, hadb, z0, z1, z2, z3⟩ := reads_ent (Hr.out.below hbel) hlt
   have q0 : (0 : Int) ≤ ↑k := by omega
   have q1 : (↑k : Int) < ↑n := by omega
   have hsh := s_short Hok.out _ (List.getElem_mem hkx)
   have Hst := Lib.hid (homeF_succ q ds k hkx)
   have hsz := homeF_size q ds (ds.take k) (by rw [HL.out]; exact h12) (fun e he => s_short Hok.out e (List.mem_of_mem_take he))
   rw [List.length_take] at hsz
   have hsz2 : (homeF q ds (ds.take k)).size ≤ 1000 := by omega
   obtain ⟨e, he⟩ : ∃ e, ds[k] = e := ⟨_, rfl⟩
   rw [he] at z0 z1 z2 z3 hsh Hst
   clear he hsz
   obtain ⟨eh, ei, es, ed⟩ := e
   simp only at z0 z1 z2 z3 hsh Hst
   obtain ⟨F, hF⟩ : ∃ F, homeF q ds (ds.take k) = F := ⟨_, rfl⟩
   rw [hF] at hsz2 Hst ⊢
   clear hF
   have v1 := varB_size ei
   have v2 := varB_size ed
   have v3 := pieceB_size es
   have u1 : ¬ 9223372036854775807 < F.size + (varB ei).size := by omega
   have u2 : ¬ 9223372036854775807 < F.size + (varB ei).size + (varB ed).size := by omega
   have u3 : ¬ 9223372036854775807 < F.size + (varB ei).size + (varB ed).size + (pieceB es).size := by omega
   go_wp2_with fail
   go_region_held3 (fun w' => w'.cell? ⟨b, o + k * 4 + 1, none⟩ = some (.int .i64 ei) ∧ w'.cell? ⟨b, o + k * 4 + 2, none⟩ = some (.string es) ∧ w'.cell? ⟨b, o + k * 4 + 3, none⟩ = some (.int .i64 ed))
    (first | go_keep | (refine ⟨keep1 hb9 ?_, keep1 hb9 ?_, keep1 hb9 ?_⟩ <;> go_keep))
    (first
     | (go_at_call 86; refine (var_spec _ _).mono ?_; rintro e w9 ⟨rfl, hb9⟩; (first | have hB3 := belN hB2 hb9 | have hB2 := belN hB1 hb9 | have hB1 := belN (bel0 wr).drew hb9))
     | (go_at_call 89; refine (piece_spec es (by omega) _).mono ?_; rintro e w9 ⟨rfl, hb9⟩; (first | have hB3 := belN hB2 hb9 | have hB2 := belN hB1 hb9 | have hB1 := belN (bel0 wr).drew hb9)))
   go_wp2
   go_roundw
   case rel => exact ⟨k + 1, by omega, by go_num, by rw [Hst.out], belN hbel hB3⟩
   case measure => simp [intOf]; omega
  ·obtain rfl : k = n := by omega
   have hcz := homeBody_size q ds HL.out h12 (s_short Hok.out)
   have Hend := Lib.hid (show homeF q ds ds = homeF q ds (ds.take k) by rw [List.take_of_length_le (by have := HL.out; omega)])
   rw [show homeF q ds (ds.take k) = homeF q ds ds from Hend.out.symm]
   obtain ⟨F, hF⟩ : ∃ F, homeF q ds ds = F := ⟨_, rfl⟩
   rw [hF] at hcz Hf
   rw [hF]
   clear hF
   have hc := crcB_bd F
   have hz4 := fix4_size (crcB F)
   have n9 : ¬ 9223372036854775807 < (fix4 (crcB F)).size + F.size := by omega
   go_wp2_with (first
    | (go_at_call 88; refine (crc_spec F (by omega) _).mono ?_; rintro e w' ⟨rfl, rfl⟩)
    | (go_at_call 87; refine (fixed_spec _ hc.1 hc.2 _).mono ?_; rintro e w8 ⟨rfl, hb8⟩))
   go_ret
   exact ⟨ret_str Hf.out.symm, belN belr hb8⟩

theorem showHome_spec (q : Int) (v : Value) (ds : List EntD) (sm : szS ds ≤ 1048576) (w : World) (h : IsS w v ds) :
  Calls Tryz.prog 49 #[.int .i64 q, v] w fun e w' => e = .returned (.string (showHomeB q ds)) ∧ Below w.heap.size w w' :=
 showHome_spec0 q v ds (s_names sm) (by have := szS_n ds; omega) w h

theorem eqS_self (a b : ByteArray) : (a.toList == b.toList) = true ↔ a = b := by
 rw [beq_iff_eq, ByteArray.toList_eq, ByteArray.toList_eq]
 exact ⟨bytes_ext, fun h => by rw [h]⟩
noncomputable def keyIs (key : ByteArray) (e : EntD) : Bool := (keyP e.s).1.toList == key.toList
/-- Where the first entry of a kind stands. -/
def IdxE (ds : List EntD) (p : EntD → Bool) (r : Int) : Prop := (r = -1 ∧ ds.find? p = none) ∨ ∃ k, ∃ hk : k < ds.length, r = (k : Int) ∧ ds.find? p = some ds[k]

set_option maxRecDepth 100000 in
set_option maxHeartbeats 1000000 in
theorem entAt_clo (e : EntD) (hz : e.s.size ≤ 2000000) (B : Nat) (key : ByteArray) (w : World) (hT : Tab w) (hB : w.cell? ⟨B, 0, none⟩ = some (.string key)) :
  Calls Tryz.prog 123 #[e.val, .pointer (some ⟨B, 0, none⟩)] w fun r w' => r = .returned (.bool (keyIs key e)) ∧ Below w.heap.size w w' := by
 obtain ⟨eh, ei, es, ed⟩ := e
 simp only [EntD.val, keyIs] at hz ⊢
 have HT := Lib.hid hT
 have hlt := World.block_lt_of_cell? _ _ hB
 simp only at hlt
 clear hT
 go_enter Tryz.func123, Tryz.ntmps123
 go_wp2_with fail
 refine (keyOf_impl es hz _ (HT.out.al _)).mono ?_
 rintro r w1 ⟨rfl, hb1⟩
 have hB1 := keep1 (belN (belA (bel0 w) _) hb1) hB (Nat.le_refl _)
 have b1 := belN (belA (bel0 w) _) hb1
 clear hB
 go_wp2
 go_ret
 exact ⟨rfl, b1⟩

set_option maxRecDepth 100000 in
set_option maxHeartbeats 2000000 in
theorem indexFunc_entAt (A : Option Addr) (n c : Nat) (ds : List EntD) (hz : ∀ e ∈ ds, e.s.size ≤ 2000000) (hn : n ≤ 9223372036854775807) (B : Nat) (key : ByteArray) (w : World) (hT : Tab w) (hB : w.cell? ⟨B, 0, none⟩ = some (.string key)) (hr : Reads w w.heap.size 4 A n (ES ds)) :
  Calls Tryz.prog 122 #[.slice A n c, .func (.func 123) #[] #[.pointer (some ⟨B, 0, none⟩)]] w fun e w' => ∃ r : Int, e = .returned (.int .i64 r) ∧ IdxE ds (keyIs key) r ∧ Below w.heap.size w w' := by
 have hl : ds.length = n := by have := hr.1; rw [ES_length] at this; omega
 have Hr := Lib.hid hr
 have HL := Lib.hid hl
 have HT := Lib.hid hT
 have HB := Lib.hid hB
 have Hz := Lib.hid hz
 clear hr hl hT hB hz
 go_enter Tryz.func122, Tryz.ntmps122
 go_wp2
 go_loopw [8] (fun i wr => ∃ (k : Nat), k ≤ n ∧ i = .int .i64 k ∧ Hid ((ds.take k).find? (keyIs key) = none) ∧ Below w.heap.size w wr)
  (fun i _ => n - (intOf i).toNat)
 case atStart => exact ⟨0, by omega, rfl, by simp [Hid], bel0 w⟩
 case round =>
  obtain ⟨k, hk, rfl, hnone, hbel⟩ := hrel
  by_cases hlt : k < n
  ·obtain ⟨hkx, b, o, rfl, hadb, z0, z1, z2, z3⟩ := reads_ent (Hr.out.below hbel) hlt
   have q0 : (0 : Int) ≤ ↑k := by omega
   have q1 : (↑k : Int) < ↑n := by omega
   have hts := Lib.hid (List.take_succ_eq_append_getElem hkx)
   have hdr := Lib.hid (show ds = ds.take k ++ ds[k] :: ds.drop (k + 1) by rw [← List.drop_eq_getElem_cons hkx, List.take_append_drop])
   have hzk := Hz.out _ (List.getElem_mem hkx)
   obtain ⟨e, he⟩ : ∃ e, ds[k] = e := ⟨_, rfl⟩
   have He := Lib.hid he
   rw [he] at z0 z1 z2 z3 hts hdr hzk
   clear he
   rcases hp : keyIs key e with _ | _
   ·have Hm := Lib.hid (find_miss (p := keyIs key) hnone.out hp)
    go_wp2_with fail
    refine (entAt_clo e hzk B key _ (HT.out.below hbel HT.out.pos) (keep1 hbel HB.out (Nat.le_refl _))).mono ?_
    rintro r w2 ⟨rfl, hb2⟩
    rw [hp]
    go_wp2
    go_roundw
    case rel => exact ⟨k + 1, by omega, by go_num, by show _ = _; rw [hts.out]; exact Hm.out, belN hbel hb2⟩
    case measure => simp [intOf]; omega
   ·have Hf := Lib.hid (show ds.find? (keyIs key) = some e by rw [hdr.out]; exact find_hit (p := keyIs key) hnone.out hp)
    go_wp2_with fail
    refine (entAt_clo e hzk B key _ (HT.out.below hbel HT.out.pos) (keep1 hbel HB.out (Nat.le_refl _))).mono ?_
    rintro r w2 ⟨rfl, hb2⟩
    rw [hp]
    go_wp2
    go_ret
    exact ⟨_, rfl, .inr ⟨k, hkx, rfl, by rw [Hf.out, He.out]⟩, belN hbel hb2⟩
  ·have Hf := Lib.hid (show ds.find? (keyIs key) = none by have := hnone.out; rwa [List.take_of_length_le (by have := HL.out; omega)] at this)
   go_wp2
   go_ret
   exact ⟨_, rfl, .inl ⟨rfl, Hf.out⟩, hbel⟩

/-- Where entAt finds a name. -/
def AtPost (ds : List EntD) (s : ByteArray) (r : Int) : Prop := (nameOkB s = false ∧ r = -1) ∨ (nameOkB s = true ∧ IdxE ds (keyIs (keyB s)) r)

set_option maxRecDepth 100000 in
set_option maxHeartbeats 2000000 in
theorem entAt_impl (A : Option Addr) (n c : Nat) (ds : List EntD) (hz : ∀ e ∈ ds, e.s.size ≤ 2000000) (hn : n ≤ 9223372036854775807) (s : ByteArray) (hs : s.size ≤ 2000000) (w : World) (hT : Tab w) (hr : Reads w w.heap.size 4 A n (ES ds)) :
  Calls Tryz.prog 104 #[.slice A n c, .string s] w fun e w' => ∃ r : Int, e = .returned (.int .i64 r) ∧ AtPost ds s r ∧ Below w.heap.size w w' := by
 have Hr := Lib.hid hr
 have HT := Lib.hid hT
 have Hz := Lib.hid hz
 have hmf : ∀ (fn : Fn) (first cap : Array Value) (w : World), (Instr.makeFunc fn first cap).run Tryz.prog w = .ok (.func fn first cap) w := fun _ _ _ _ => rfl
 clear hr hT hz
 rcases hn' : nameOkB s with _ | _
 ·have Hk := Lib.hid (keyP_no hn')
  have Hn := Lib.hid hn'
  clear hn'
  go_enter Tryz.func104, Tryz.ntmps104
  go_wp2_with fail
  refine (keyOf_impl s hs _ HT.out).mono ?_
  rintro e w1 ⟨rfl, hb1⟩
  rw [Hk.out]
  simp only
  go_wp2
  go_ret
  exact ⟨_, rfl, .inl ⟨Hn.out, rfl⟩, belA hb1 _⟩
 ·have Hk := Lib.hid (keyP_ok hn')
  have Hn := Lib.hid hn'
  clear hn'
  obtain ⟨key, hkey⟩ : ∃ key, keyB s = key := ⟨_, rfl⟩
  have Hkey := Lib.hid hkey
  rw [hkey] at Hk
  clear hkey
  go_enter Tryz.func104, Tryz.ntmps104
  go_wp2_with fail
  refine (keyOf_impl s hs _ HT.out).mono ?_
  rintro e w1 ⟨rfl, hb1⟩
  rw [Hk.out]
  simp only
  go_wp2_with fail
  have hBk := Blk.new' w1 9 #[.string key] w1.heap.size
  refine (indexFunc_entAt A n c ds Hz.out hn w1.heap.size key _ ((HT.out.bl hb1).al _) (hBk.get 0 rfl) ((Hr.out.below (belA hb1 _)).more (by have := hb1.size; simp; omega))).mono ?_
  rintro e w2 ⟨r, rfl, hidx, hb2⟩
  have Hidx := Lib.hid hidx
  clear hidx hBk
  go_wp2
  go_ret
  exact ⟨_, rfl, .inr ⟨Hn.out, by rw [Hkey.out]; exact Hidx.out⟩, belN (belA hb1 _) hb2⟩

set_option maxRecDepth 100000 in
set_option maxHeartbeats 2000000 in
theorem l5At_any (A : Option Addr) (n c : Nat) (ds : List EntD) (hz : ∀ e ∈ ds, e.s.size ≤ 2000000) (hn : n ≤ 9223372036854775807) (s : ByteArray) (hs : s.size ≤ 2000000) (w : World) (hr : Reads w w.heap.size 4 A n (ES ds)) :
  Calls Tryz.prog 111 #[.slice A n c, .string s] w fun e w' => ∃ r : Int, e = .returned (.int .i64 r) ∧ IdxE ds (fun e => alikeB e.s s) r ∧ Below w.heap.size w w' := by
 have hl : ds.length = n := by have := hr.1; rw [ES_length] at this; omega
 have Hr := Lib.hid hr
 have HL := Lib.hid hl
 have Hz := Lib.hid hz
 clear hr hl hz
 go_enter Tryz.func111, Tryz.ntmps111
 go_wp2
 go_loopw [5] (fun i wr => ∃ (k : Nat), k ≤ n ∧ i = .int .i64 k ∧ Hid ((ds.take k).find? (fun e => alikeB e.s s) = none) ∧ Below w.heap.size w wr)
  (fun i _ => n - (intOf i).toNat)
 case atStart => exact ⟨0, by omega, rfl, by simp [Hid], bel0 w⟩
 case round =>
  obtain ⟨k, hk, rfl, hnone, hbel⟩ := hrel
  by_cases hlt : k < n
  ·obtain ⟨hkx, b, o, rfl, hadb, z0, z1, z2, z3⟩ := reads_ent (Hr.out.below hbel) hlt
   have q0 : (0 : Int) ≤ ↑k := by omega
   have q1 : (↑k : Int) < ↑n := by omega
   have hts := Lib.hid (List.take_succ_eq_append_getElem hkx)
   have hdr := Lib.hid (show ds = ds.take k ++ ds[k] :: ds.drop (k + 1) by rw [← List.drop_eq_getElem_cons hkx, List.take_append_drop])
   have hzk := Hz.out _ (List.getElem_mem hkx)
   obtain ⟨e, he⟩ : ∃ e, ds[k] = e := ⟨_, rfl⟩
   have He := Lib.hid he
   rw [he] at z0 z1 z2 z3 hts hdr hzk
   clear he
   rcases hp : alikeB e.s s with _ | _
   ·have Hm := Lib.hid (find_miss (p := fun e => alikeB e.s s) hnone.out hp)
    go_wp2_with fail
    refine (alike_spec e.s s hzk hs _).mono ?_
    rintro r w2 ⟨rfl, hb2⟩
    rw [hp]
    go_wp2
    go_roundw
    case rel => exact ⟨k + 1, by omega, by go_num, by show _ = _; rw [hts.out]; exact Hm.out, belN hbel hb2⟩
    case measure => simp [intOf]; omega
   ·have Hf := Lib.hid (show ds.find? (fun e => alikeB e.s s) = some e by rw [hdr.out]; exact find_hit (p := fun e => alikeB e.s s) hnone.out hp)
    go_wp2_with fail
    refine (alike_spec e.s s hzk hs _).mono ?_
    rintro r w2 ⟨rfl, hb2⟩
    rw [hp]
    go_wp2
    go_ret
    exact ⟨_, rfl, .inr ⟨k, hkx, rfl, by rw [Hf.out, He.out]⟩, belN hbel hb2⟩
  ·have Hf := Lib.hid (show ds.find? (fun e => alikeB e.s s) = none by have := hnone.out; rwa [List.take_of_length_le (by have := HL.out; omega)] at this)
   go_wp2
   go_ret
   exact ⟨_, rfl, .inl ⟨rfl, Hf.out⟩, hbel⟩

theorem find_same {p q : EntD → Bool} : ∀ (l : List EntD), (∀ e ∈ l, p e = q e) → l.find? p = l.find? q
 | [], _ => rfl
 | a :: l, h => by rw [List.find?_cons, List.find?_cons, h a (by simp), find_same l (fun e he => h e (by simp [he]))]
theorem dir_names {ds : List EntD} (h : dirOkB ds = true) : ∀ e ∈ ds, nameOkB e.s = true := fun e he => by
 obtain ⟨k, hk, rfl⟩ := List.getElem_of_mem he
 obtain ⟨_, h2, _⟩ := (dirP_iff.1 (dirOkB_iff.1 h)).2 k hk
 exact (entOk_parts h2).1
theorem key_alike {ds : List EntD} {s : ByteArray} (h : dirOkB ds = true) (hs : nameOkB s = true) : ds.find? (keyIs (keyB s)) = ds.find? (fun e => alikeB e.s s) := by
 refine find_same ds fun e he => ?_
 have hn := dir_names h e he
 rw [Bool.eq_iff_iff, alikeB_eq hn hs]
 unfold keyIs
 rw [keyP_ok hn]
 exact eqS_self _ _
theorem alike_no {ds : List EntD} {s : ByteArray} (hs : nameOkB s = false) : ds.find? (fun e => alikeB e.s s) = none := by
 rw [List.find?_eq_none]
 intro e _
 unfold alikeB
 rw [hs]; simp
/-- In a right directory entAt and l5At are one. -/
theorem at_idx {ds : List EntD} {s : ByteArray} {r : Int} (h : dirOkB ds = true) (ha : AtPost ds s r) : IdxE ds (fun e => alikeB e.s s) r := by
 rcases ha with ⟨h1, rfl⟩ | ⟨h1, h2⟩
 ·exact .inl ⟨rfl, alike_no h1⟩
 ·rcases h2 with ⟨h3, h4⟩ | ⟨k, hk, h3, h4⟩
  ·exact .inl ⟨h3, by rw [← key_alike h h1]; exact h4⟩
  ·exact .inr ⟨k, hk, h3, by rw [← key_alike h h1]; exact h4⟩

end Go.Proofs.YtghgafbfpejinaaGreatDoor
