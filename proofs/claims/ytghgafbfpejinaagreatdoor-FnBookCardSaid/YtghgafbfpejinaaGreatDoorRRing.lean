/- The newest records of a ring, in both packages. -/
import Derived.Test.YtghgafbfpejinaaGreatDoorRStrRows
import Derived.Test.YtghgafbfpejinaaGreatDoorRRecs
import Derived.Test.YtghgafbfpejinaaGreatDoorRRec2
namespace Go.Proofs.YtghgafbfpejinaaGreatDoor
open Go Go.RowKit

/-- The text in the place of a number. -/
def at6 (L : List ByteArray) (q : Int) : ByteArray := L.getD (q % 6).toNat ⟨#[]⟩
/-- The record with a number stands in its place. -/
def recAtB (L : List ByteArray) (q : Int) : Bool := decide (1 ≤ q) && ((recP (at6 L q)).2.2 && decide ((recP (at6 L q)).1 = q))
def txtAt (L : List ByteArray) (q : Int) : ByteArray := (recP (at6 L q)).2.1
theorem recP_bd (s : ByteArray) : 0 ≤ (recP s).1 ∧ (recP s).1 ≤ 562949953421312 := by
 unfold recP
 rcases h : recOf s with _ | ⟨q, t⟩
 ·simp
 ·unfold recOf at h
  split at h
  ·rename_i q' p hv
   split at h
   ·simp only [Option.some.injEq, Prod.mk.injEq] at h
    obtain ⟨rfl, _⟩ := h
    have := (varsAt_bd _ _ _ _ _ hv).2.1 q' (by simp)
    simp only; omega
   ·cases h
  ·cases h
/-- Six below there is another one in the place. -/
theorem recAt_six {L : List ByteArray} {q : Int} (h : recAtB L q = true) : recAtB L (q - 6) = false := by
 unfold recAtB at h ⊢
 rw [Bool.and_eq_true, Bool.and_eq_true, decide_eq_true_eq, decide_eq_true_eq] at h
 have e : at6 L (q - 6) = at6 L q := by unfold at6; rw [show (q - 6) % 6 = q % 6 by omega]
 rw [e, Bool.and_eq_false_iff, Bool.and_eq_false_iff]
 refine .inr (.inr ?_)
 rw [decide_eq_false_iff_not]; omega
theorem getD_at (L : List ByteArray) (k : Nat) (h : k < L.length) : L.getD k ⟨#[]⟩ = L[k] := by simp [List.getD, h]
theorem at6_get {L : List ByteArray} (h : L.length = 6) (q : Int) : ∃ (k : Nat) (hk : k < L.length), q % 6 = (k : Int) ∧ at6 L q = L[k] := by
 have h1 : (q % 6).toNat < L.length := by omega
 exact ⟨(q % 6).toNat, h1, by omega, by unfold at6; rw [getD_at L _ h1]⟩
/-- What recAt leaves. -/
def RecAtPost (L : List ByteArray) (q : Int) (e : Ending) : Prop :=
 (recAtB L q = true ∧ e = .returned (.tuple #[.agg #[.int .i64 q, .string (txtAt L q)], .bool true])) ∨ (recAtB L q = false ∧ ∃ r t, e = .returned (.tuple #[.agg #[.int .i64 r, .string t], .bool false]) ∧ t.size ≤ (txtAt L q).size)

theorem recAt_no {L : List ByteArray} {q : Int} (h : recAtB L q = false) (r : Int) (t : ByteArray) (hz : t.size ≤ (txtAt L q).size) {v : Value} (hv : v = .tuple #[.agg #[.int .i64 r, .string t], .bool false]) : RecAtPost L q (.returned v) := .inr ⟨h, r, t, by rw [hv], hz⟩
theorem recAt_yes {L : List ByteArray} {q r : Int} {t : ByteArray} (h : recAtB L q = true) (hr : r = q) (ht : t = txtAt L q) {v : Value} (hv : v = .tuple #[.agg #[.int .i64 r, .string t], .bool true]) : RecAtPost L q (.returned v) := .inl ⟨h, by rw [hv, hr, ht]⟩

set_option maxRecDepth 100000 in
set_option maxHeartbeats 2000000 in
theorem recAt_impl (A : Option Addr) (c : Nat) (L : List ByteArray) (q : Int) (hL : L.length = 6) (hq : q ≤ 1000000000000000) (hs : ∀ s ∈ L, s.size ≤ 1000000000) (w : World) (hr : Reads w w.heap.size 1 A 6 (SS L)) :
  Calls Tryz.prog 32 #[.slice A 6 c, .int .i64 q] w fun e w' => RecAtPost L q e ∧ Below w.heap.size w w' := by
 have Hr := Lib.hid hr
 have Hs := Lib.hid hs
 clear hr hs
 by_cases h1 : q < 1
 ·have Hno := Lib.hid (show recAtB L q = false by unfold recAtB; simp; omega)
  go_enter Tryz.func32, Tryz.ntmps32
  go_wp2
  refine bodyPost_ret (v := .tuple #[.agg #[.int .i64 0, .string ⟨#[]⟩], .bool false]) (by simp [results, Tryz.results32, go_sem]) rfl ⟨recAt_no Hno.out _ _ (by first | exact Nat.zero_le _ | (unfold txtAt; rw [Hp.out]; exact Nat.le_refl _)) rfl, belA (bel0 w) _⟩
 ·obtain ⟨k, hk, hmod, hat⟩ := at6_get hL q
  have hk6 : k < 6 := by omega
  obtain ⟨_, bb, oo, rfl, hadb, hcell⟩ := reads_strF Hr.out hk6
  have hsz := Hs.out _ (List.getElem_mem hk)
  rw [← hat] at hcell hsz
  have Hat := Lib.hid hat
  clear hat
  have m0 : (0 : Int) ≤ q % 6 := by omega
  have m1 : q % 6 < 6 := by omega
  have m2 : (q % 6).toNat = k := by omega
  have Hbd := Lib.hid (recP_bd (at6 L q))
  obtain ⟨r, t, b, hp⟩ : ∃ r t b, recP (at6 L q) = (r, t, b) := ⟨_, _, _, rfl⟩
  have Hp := Lib.hid hp
  clear hp hmod
  go_enter Tryz.func32, Tryz.ntmps32
  go_wp2_with fail
  refine (readRec_impl (at6 L q) hsz _).mono ?_
  rintro e w1 ⟨rfl, hb1⟩
  rw [Hp.out]
  simp only
  have hR := (Blk.new' w 60 #[.int .i64 0, .string ⟨#[]⟩] w.heap.size).below hb1 (by simp)
  have b1 := belN (belA (bel0 w) _) hb1
  have hlt := hR.lt
  have k2 := hR.frozen 0
  have k3 := hR.frozen 1
  have r30 := hR.c0
  have r31 := hR.c1
  have ne : w.heap.size ≠ w1.heap.size := by omega
  have ne' : w1.heap.size ≠ w.heap.size := by omega
  clear hcell m0 m1 m2
  cases b
  ·have Hno := Lib.hid (show recAtB L q = false by unfold recAtB; rw [Hp.out]; simp)
   go_wp2_with fail
   go_region
   all_goals
    go_wp2
    refine bodyPost_ret (v := .tuple #[.agg #[.int .i64 r, .string t], .bool false]) (by simp [results, Tryz.results32, go_sem, hlt, r30, r31]) rfl ⟨recAt_no Hno.out _ _ (by first | exact Nat.zero_le _ | (unfold txtAt; rw [Hp.out]; exact Nat.le_refl _)) rfl, ?_⟩
    repeat (first | exact b1 | apply Below.drew | refine belA ?_ _ | refine belC ?_ _ _ (by omega) _)
  ·by_cases he : r = q
   ·have Hyes := Lib.hid (show recAtB L q = true by unfold recAtB; rw [Hp.out]; simp [he]; omega)
    have Ht := Lib.hid (show t = txtAt L q by unfold txtAt; rw [Hp.out])
    have He := Lib.hid he
    have he' : (r == q) = true := by simpa using he
    clear he
    go_wp2_with fail
    go_region
    all_goals
     go_wp2
     refine bodyPost_ret (v := .tuple #[.agg #[.int .i64 r, .string t], .bool true]) (by simp [results, Tryz.results32, go_sem, hlt, r30, r31]) rfl ⟨recAt_yes Hyes.out He.out Ht.out rfl, ?_⟩
     repeat (first | exact b1 | apply Below.drew | refine belA ?_ _ | refine belC ?_ _ _ (by omega) _)
   ·have Hno := Lib.hid (show recAtB L q = false by unfold recAtB; rw [Hp.out]; simp [he])
    have he' : (r == q) = false := by simpa using he
    clear he
    go_wp2_with fail
    go_region
    all_goals
     go_wp2
     refine bodyPost_ret (v := .tuple #[.agg #[.int .i64 r, .string t], .bool false]) (by simp [results, Tryz.results32, go_sem, hlt, r30, r31]) rfl ⟨recAt_no Hno.out _ _ (by first | exact Nat.zero_le _ | (unfold txtAt; rw [Hp.out]; exact Nat.le_refl _)) rfl, ?_⟩
     repeat (first | exact b1 | apply Below.drew | refine belA ?_ _ | refine belC ?_ _ _ (by omega) _)

set_option maxRecDepth 100000 in
set_option maxHeartbeats 2000000 in
theorem l24At_any (A : Option Addr) (c : Nat) (L : List ByteArray) (q : Int) (hL : L.length = 6) (hq : q ≤ 1000000000000000) (hs : ∀ s ∈ L, s.size ≤ 1000000000) (w : World) (hr : Reads w w.heap.size 1 A 6 (SS L)) :
  Calls Tryz.prog 53 #[.slice A 6 c, .int .i64 q] w fun e w' => RecAtPost L q e ∧ Below w.heap.size w w' := by
 have Hr := Lib.hid hr
 have Hs := Lib.hid hs
 clear hr hs
 by_cases h1 : q < 1
 ·have Hno := Lib.hid (show recAtB L q = false by unfold recAtB; simp; omega)
  go_enter Tryz.func53, Tryz.ntmps53
  go_wp2
  refine bodyPost_ret (v := .tuple #[.agg #[.int .i64 0, .string ⟨#[]⟩], .bool false]) (by simp [results, Tryz.results53, go_sem]) rfl ⟨recAt_no Hno.out _ _ (by first | exact Nat.zero_le _ | (unfold txtAt; rw [Hp.out]; exact Nat.le_refl _)) rfl, belA (bel0 w) _⟩
 ·obtain ⟨k, hk, hmod, hat⟩ := at6_get hL q
  have hk6 : k < 6 := by omega
  obtain ⟨_, bb, oo, rfl, hadb, hcell⟩ := reads_strF Hr.out hk6
  have hsz := Hs.out _ (List.getElem_mem hk)
  rw [← hat] at hcell hsz
  have Hat := Lib.hid hat
  clear hat
  have m0 : (0 : Int) ≤ q % 6 := by omega
  have m1 : q % 6 < 6 := by omega
  have m2 : (q % 6).toNat = k := by omega
  have Hbd := Lib.hid (recP_bd (at6 L q))
  obtain ⟨r, t, b, hp⟩ : ∃ r t b, recP (at6 L q) = (r, t, b) := ⟨_, _, _, rfl⟩
  have Hp := Lib.hid hp
  clear hp hmod
  have hbr : b = true → ∃ x : Bool, ((r == q) = x ∧ (r != q) = !x) ∧ recAtB L q = x := by
   rintro rfl
   refine ⟨r == q, ⟨rfl, rfl⟩, ?_⟩
   unfold recAtB; rw [Hp.out]
   have : decide (1 ≤ q) = true := by simp; omega
   simp [this]; rfl
  go_enter Tryz.func53, Tryz.ntmps53
  go_wp2_with fail
  refine (readRec_spec (at6 L q) hsz _).mono ?_
  rintro e w1 ⟨rfl, hb1⟩
  rw [Hp.out]
  simp only
  have hR := (Blk.new' w 60 #[.int .i64 0, .string ⟨#[]⟩] w.heap.size).below hb1 (by simp)
  have b1 := belN (belA (bel0 w) _) hb1
  have hlt := hR.lt
  have k2 := hR.frozen 0
  have k3 := hR.frozen 1
  have r30 := hR.c0
  have r31 := hR.c1
  have ne : w.heap.size ≠ w1.heap.size := by omega
  have ne' : w1.heap.size ≠ w.heap.size := by omega
  clear hcell m0 m1 m2
  cases b
  ·have Hno := Lib.hid (show recAtB L q = false by unfold recAtB; rw [Hp.out]; simp)
   clear hbr
   go_wp2
   refine bodyPost_ret (v := .tuple #[.agg #[.int .i64 0, .string ⟨#[]⟩], .bool false]) (by simp [results, Tryz.results53, go_sem, hlt, r30, r31]) rfl ⟨recAt_no Hno.out _ _ (by first | exact Nat.zero_le _ | (unfold txtAt; rw [Hp.out]; exact Nat.le_refl _)) rfl, ?_⟩
   repeat (first | exact b1 | apply Below.drew | refine belA ?_ _ | refine belC ?_ _ _ (by omega) _)
  ·obtain ⟨x, ⟨hx1, hx2⟩, hx3⟩ := hbr rfl
   clear hbr
   cases x
   ·have Hno := Lib.hid hx3
    clear hx3
    simp only [Bool.not_false] at hx2
    go_wp2
    refine bodyPost_ret (v := .tuple #[.agg #[.int .i64 0, .string ⟨#[]⟩], .bool false]) (by simp [results, Tryz.results53, go_sem, hlt, r30, r31]) rfl ⟨recAt_no Hno.out _ _ (by first | exact Nat.zero_le _ | (unfold txtAt; rw [Hp.out]; exact Nat.le_refl _)) rfl, ?_⟩
    repeat (first | exact b1 | apply Below.drew | refine belA ?_ _ | refine belC ?_ _ _ (by omega) _)
   ·have Hyes := Lib.hid hx3
    have He := Lib.hid (show r = q by simpa using hx1)
    have Ht := Lib.hid (show t = txtAt L q by unfold txtAt; rw [Hp.out])
    clear hx3
    simp only [Bool.not_true] at hx2
    go_wp2
    refine bodyPost_ret (v := .tuple #[.agg #[.int .i64 r, .string t], .bool true]) (by simp [results, Tryz.results53, go_sem, hlt, r30, r31]) rfl ⟨recAt_yes Hyes.out He.out Ht.out rfl, ?_⟩
    repeat (first | exact b1 | apply Below.drew | refine belA ?_ _ | refine belC ?_ _ _ (by omega) _)

theorem RecAtPost.yes {L : List ByteArray} {q : Int} {e : Ending} (h : RecAtPost L q e) (hy : recAtB L q = true) : e = .returned (.tuple #[.agg #[.int .i64 q, .string (txtAt L q)], .bool true]) := by
 rcases h with ⟨_, h⟩ | ⟨h, _⟩
 ·exact h
 ·rw [hy] at h; cases h
theorem RecAtPost.no2 {L : List ByteArray} {q : Int} {e : Ending} (h : RecAtPost L q e) (hy : recAtB L q = false) : ∃ r t, e = .returned (.tuple #[.agg #[.int .i64 r, .string t], .bool false]) ∧ t.size ≤ (txtAt L q).size := by
 rcases h with ⟨h, _⟩ | ⟨_, h⟩
 ·rw [hy] at h; cases h
 ·exact h

end Go.Proofs.YtghgafbfpejinaaGreatDoor
