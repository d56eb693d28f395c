/- A store and a file that are right: the walks of both sides (zeros, ends, StoreOk). -/
import Derived.Test.YtajgenjfhcapjaaFwOkP
import Derived.Test.YtajgenjfhcapjaaFwPut
import Derived.Test.YtajgenjfhcapjaaFwFnd
namespace Go.Proofs.Ytajgenjfhcapjaa
open Go Go.RowKit

def IsSto (w : World) (v : Value) (S : StoD) : Prop := ∃ A1 c1 A2 c2, v = .agg #[.slice A1 S.bs.length c1, .slice A2 S.ds.length c2] ∧ Reads w w.heap.size 1 A1 S.bs.length (BS S.bs) ∧ Reads w w.heap.size 1 A2 S.ds.length (SS S.ds)
def IsFil (w : World) (v : Value) (F : FilD) : Prop := ∃ A c, v = .agg #[.int .i64 F.sz, .slice A F.xs.length c] ∧ Reads w w.heap.size 3 A F.xs.length (XS F.xs)
theorem Reads.nxt {w w' : World} {size n : Nat} {A : Option Addr} {xs : List Value} (h : Reads w w.heap.size size A n xs) (hb : Below w.heap.size w w') : Reads w' w'.heap.size size A n xs := (h.below hb).more hb.size
theorem IsSto.next {w w' : World} {v : Value} {S : StoD} (h : IsSto w v S) (hb : Below w.heap.size w w') : IsSto w' v S := by
  obtain ⟨A1, c1, A2, c2, e, h1, h2⟩ := h
  exact ⟨A1, c1, A2, c2, e, h1.nxt hb, h2.nxt hb⟩
theorem IsFil.next {w w' : World} {v : Value} {F : FilD} (h : IsFil w v F) (hb : Below w.heap.size w w') : IsFil w' v F := by
  obtain ⟨A, c, e, h1⟩ := h
  exact ⟨A, c, e, h1.nxt hb⟩

theorem made0 : ∀ n : Nat, n ≤ 4 → (madeCells (Value.int .u8 0).cells (n * 1)).toList = B8 (List.replicate n 0) := by
  intro n h
  obtain rfl | rfl | rfl | rfl | rfl : n = 0 ∨ n = 1 ∨ n = 2 ∨ n = 3 ∨ n = 4 := by omega
  all_goals kernel_rfl
theorem conv_zeros (n : Nat) (hn : n ≤ 4) (W : World) :
    (convert 72 9 (.slice (some ⟨W.heap.size, 0, none⟩) n n)).run Try.prog (W.alloc (.cells (madeCells (Value.int .u8 0).cells (n * 1)) 5)) = .ok (.string (zer n)) (W.alloc (.cells (madeCells (Value.int .u8 0).cells (n * 1)) 5)) := by
  have h := own_make W (Value.int .u8 0).cells 5 n 1 (by unfold maxLen; omega)
  rw [made0 n hn] at h
  exact run_convert_own Try.underlying72 Try.underlying5 Try.underlying9 h

set_option maxHeartbeats 400000 in
theorem zeros_impl (n : Nat) (hn : n ≤ 4) (w : World) :
    Calls Try.prog 36 #[.int .i64 n] w fun e w' => e = .returned (.string (zer n)) ∧ Below w.heap.size w w' := by
  have hmk := make_any (P := Try.prog) 72 5 (.int .u8 0) 1 1 Try.underlying72 (by kernel_rfl) n (by omega) (by omega)
  have hcv := conv_zeros n hn
  obtain ⟨M, hM⟩ : ∃ M, madeCells (Value.int .u8 0).cells (n * 1) = M := ⟨_, rfl⟩
  rw [hM] at hmk
  simp only [hM] at hcv
  clear hM
  go_enter Try.func36, Try.ntmps36
  go_wp2
  go_ret
  exact ⟨rfl, belA (bel0 w) _⟩
set_option maxHeartbeats 400000 in
theorem zeros_spec (n : Nat) (hn : n ≤ 4) (w : World) :
    Calls Try.prog 24 #[.int .i64 n] w fun e w' => e = .returned (.string (zer n)) ∧ Below w.heap.size w w' := by
  have hmk := make_any (P := Try.prog) 72 5 (.int .u8 0) 1 1 Try.underlying72 (by kernel_rfl) n (by omega) (by omega)
  have hcv := conv_zeros n hn
  obtain ⟨M, hM⟩ : ∃ M, madeCells (Value.int .u8 0).cells (n * 1) = M := ⟨_, rfl⟩
  rw [hM] at hmk
  simp only [hM] at hcv
  clear hM
  go_enter Try.func24, Try.ntmps24
  go_wp2
  go_ret
  exact ⟨rfl, belA (bel0 w) _⟩
set_option maxHeartbeats 400000 in
theorem ends_impl (s : Int) (h0 : 0 ≤ s) (h1 : s ≤ 100) (w : World) :
    Calls Try.prog 33 #[.int .i64 s] w fun e w' => e = .returned (.int .i64 (endsP s)) ∧ w = w' := by
  go_enter Try.func33, Try.ntmps33
  go_wp2
  go_ret
  exact ⟨ret_int (by unfold endsP; first | rfl | omega), rfl⟩
set_option maxHeartbeats 400000 in
theorem ends_spec (s : Int) (h0 : 0 ≤ s) (h1 : s ≤ 100) (w : World) :
    Calls Try.prog 52 #[.int .i64 s] w fun e w' => e = .returned (.int .i64 (endsP s)) ∧ w = w' := by
  go_enter Try.func52, Try.ntmps52
  go_wp2
  go_ret
  exact ⟨ret_int (by unfold endsP; first | rfl | omega), rfl⟩

theorem sto_no1 {S : StoD} (h : ¬ S.bs.length = 24) : storeOkB S = false := by
  cases hh : storeOkB S
  · rfl
  · exact absurd (storeOk_iff.1 hh).1 h
theorem sto_no2 {S : StoD} (h : ¬ S.ds.length = 24) : storeOkB S = false := by
  cases hh : storeOkB S
  · rfl
  · exact absurd (storeOk_iff.1 hh).2.1 h
theorem sto_no3 {S : StoD} {k : Nat} (hk : k < S.ds.length) (h : ¬ S.ds[k].size = 4) : storeOkB S = false := by
  cases hh : storeOkB S
  · rfl
  · exact absurd ((storeOk_iff.1 hh).2.2 _ (List.getElem_mem hk)) h
theorem sto_yes {S : StoD} (h1 : S.bs.length = 24) (h2 : S.ds.length = 24) (h3 : ∀ (k : Nat) (hk : k < S.ds.length), S.ds[k].size = 4) : storeOkB S = true :=
  storeOk_iff.2 ⟨h1, h2, fun t ht => by obtain ⟨k, hk, rfl⟩ := List.getElem_of_mem ht; exact h3 k hk⟩

set_option maxRecDepth 100000 in
set_option maxHeartbeats 2000000 in
theorem storeOk_impl (v : Value) (S : StoD) (hz : ∀ t ∈ S.ds, t.size ≤ 9223372036854775807) (hn2 : S.ds.length ≤ 10000000) (w : World) (h : IsSto w v S) :
    Calls Try.prog 58 #[v] w fun e w' => e = .returned (.bool (storeOkB S)) ∧ Below w.heap.size w w' := by
  obtain ⟨A1, c1, A2, c2, rfl, r1, r2⟩ := h
  have Hz := Lib.hid hz
  have HNO1 := Lib.hid (fun h => sto_no1 (S := S) h)
  have HNO2 := Lib.hid (fun h => sto_no2 (S := S) h)
  have HNO3 := Lib.hid (show ∀ (k : Nat) (hk : k < S.ds.length), ¬ S.ds[k].size = 4 → storeOkB S = false from fun k hk h => sto_no3 hk h)
  have HY := Lib.hid (fun a b c => sto_yes (S := S) a b c)
  clear hz
  obtain ⟨n1, hl1⟩ : ∃ n, S.bs.length = n := ⟨_, rfl⟩
  obtain ⟨n2, hl2⟩ : ∃ n, S.ds.length = n := ⟨_, rfl⟩
  rw [hl1] at r1
  rw [hl2] at r2 hn2
  rw [hl1, hl2]
  have Hl1 := Lib.hid hl1
  have Hl2 := Lib.hid hl2
  clear hl1 hl2
  obtain ⟨W1, hW1⟩ : ∃ W1, w.alloc (.cells #[.slice A1 n1 c1, .slice A2 n2 c2] 31) = W1 := ⟨_, rfl⟩
  have X : Blk W1 w.heap.size 31 #[.slice A1 n1 c1, .slice A2 n2 c2] := by rw [← hW1]; exact Blk.new' _ _ _ _ rfl
  have B1 : Below w.heap.size w W1 := by rw [← hW1]; exact belA (bel0 w) _
  have Hr2 := Lib.hid (r2.nxt B1)
  have x0 := X.get (x := .slice A1 n1 c1) 0 rfl
  have x1 := X.get (x := .slice A2 n2 c2) 1 rfl
  have lX := X.lt
  clear r1 r2 X
  go_enter Try.func58, Try.ntmps58
  go_wp2
  try rw [hW1]
  clear hW1
  go_loopw [8] (fun i wr => ∃ j : Nat, j ≤ n2 ∧ i = .int .i64 j ∧ Hid (∀ (k : Nat) (hk : k < S.ds.length), k < j → S.ds[k].size = 4) ∧ W1 = wr) (fun i _ => n2 - (intOf i).toNat)
  case atStart => exact ⟨0, by omega, rfl, fun k _ h => by omega, rfl⟩
  case round =>
    obtain ⟨j, hj, rfl, HN, rfl⟩ := hrel
    by_cases hlt : j < n2
    · obtain ⟨hkx, ad, rfl, _, z0⟩ := reads_str Hr2.out hlt
      have q0 : (0 : Int) ≤ ↑j := by omega
      have q1 : (↑j : Int) < ↑n2 := by omega
      have hzj := Hz.out _ (List.getElem_mem hkx)
      obtain ⟨t, ht⟩ : ∃ t, S.ds[j] = t := ⟨_, rfl⟩
      rw [ht] at z0 hzj
      have Ht := Lib.hid ht
      clear ht
      by_cases h4 : t.size = 4
      · have HN2 := Lib.hid (show ∀ (k : Nat) (hk : k < S.ds.length), k < j + 1 → S.ds[k].size = 4 from fun k hk h => by
          by_cases e : k = j
          · subst e; rw [Ht.out]; exact h4
          · exact HN.out k hk (by omega))
        have h4i : ((t.size : Int) == 4) = true := by simp; omega
        have h4n : ((t.size : Int) != 4) = false := by simp; omega
        clear h4
        go_wp2
        go_roundw
        case rel => exact ⟨j + 1, by omega, by go_num, HN2.out, by first | rfl | trivial⟩
        case measure => simp [intOf]; omega
      · have HF := Lib.hid (HNO3.out _ hkx (by rw [Ht.out]; exact h4))
        have h4i : ((t.size : Int) == 4) = false := by rw [beq_eq_false_iff_ne]; omega
        have h4n : ((t.size : Int) != 4) = true := by simp; omega
        clear h4
        go_wp2
        go_ret
        exact ⟨by rw [HF.out]; rfl, B1⟩
    · by_cases h24 : n1 = 24
      · by_cases h24b : n2 = 24
        · have HF := Lib.hid (HY.out (Hl1.out.trans h24) (Hl2.out.trans h24b) (fun k hk => HN.out k hk (by have := Hl2.out; omega)))
          have d1 : decide (n1 = 24) = true := by simpa using h24
          have d2 : ((n2 : Int) == 24) = true := by simp; omega
          clear h24 h24b
          go_wp2_with fail
          refine (bitsOk_impl _ _ _ _).mono ?_
          rintro e w' ⟨rfl, rfl⟩
          rw [d1]
          go_wp2
          go_ret
          exact ⟨by rw [HF.out]; rfl, B1⟩
        · have HF := Lib.hid (HNO2.out (by rw [Hl2.out]; exact h24b))
          have d1 : decide (n1 = 24) = true := by simpa using h24
          have d2 : ((n2 : Int) == 24) = false := by rw [beq_eq_false_iff_ne]; omega
          clear h24 h24b
          go_wp2_with fail
          refine (bitsOk_impl _ _ _ _).mono ?_
          rintro e w' ⟨rfl, rfl⟩
          rw [d1]
          go_wp2
          go_ret
          exact ⟨by rw [HF.out]; rfl, B1⟩
      · have HF := Lib.hid (HNO1.out (by rw [Hl1.out]; exact h24))
        have d1 : decide (n1 = 24) = false := by simpa using h24
        clear h24
        go_wp2_with fail
        refine (bitsOk_impl _ _ _ _).mono ?_
        rintro e w' ⟨rfl, rfl⟩
        rw [d1]
        go_wp2
        go_ret
        exact ⟨by rw [HF.out]; rfl, B1⟩

set_option maxRecDepth 100000 in
set_option maxHeartbeats 2000000 in
theorem storeOk_spec (v : Value) (S : StoD) (hz : ∀ t ∈ S.ds, t.size ≤ 9223372036854775807) (hn2 : S.ds.length ≤ 10000000) (w : World) (h : IsSto w v S) :
    Calls Try.prog 48 #[v] w fun e w' => e = .returned (.bool (storeOkB S)) ∧ Below w.heap.size w w' := by
  obtain ⟨A1, c1, A2, c2, rfl, r1, r2⟩ := h
  have Hz := Lib.hid hz
  have HNO1 := Lib.hid (fun h => sto_no1 (S := S) h)
  have HNO2 := Lib.hid (fun h => sto_no2 (S := S) h)
  have HNO3 := Lib.hid (show ∀ (k : Nat) (hk : k < S.ds.length), ¬ S.ds[k].size = 4 → storeOkB S = false from fun k hk h => sto_no3 hk h)
  have HY := Lib.hid (fun a b c => sto_yes (S := S) a b c)
  clear hz
  obtain ⟨n1, hl1⟩ : ∃ n, S.bs.length = n := ⟨_, rfl⟩
  obtain ⟨n2, hl2⟩ : ∃ n, S.ds.length = n := ⟨_, rfl⟩
  rw [hl1] at r1
  rw [hl2] at r2 hn2
  rw [hl1, hl2]
  have Hl1 := Lib.hid hl1
  have Hl2 := Lib.hid hl2
  clear hl1 hl2
  obtain ⟨W1, hW1⟩ : ∃ W1, w.alloc (.cells #[.slice A1 n1 c1, .slice A2 n2 c2] 31) = W1 := ⟨_, rfl⟩
  have X : Blk W1 w.heap.size 31 #[.slice A1 n1 c1, .slice A2 n2 c2] := by rw [← hW1]; exact Blk.new' _ _ _ _ rfl
  have B1 : Below w.heap.size w W1 := by rw [← hW1]; exact belA (bel0 w) _
  have Hr2 := Lib.hid (r2.nxt B1)
  have x0 := X.get (x := .slice A1 n1 c1) 0 rfl
  have x1 := X.get (x := .slice A2 n2 c2) 1 rfl
  have lX := X.lt
  clear r1 r2 X
  go_enter Try.func48, Try.ntmps48
  go_wp2_with fail
  try rw [hW1]
  clear hW1
  refine (bitsOk_spec _ _ _ _).mono ?_
  rintro e w' ⟨rfl, rfl⟩
  by_cases h24 : n1 = 24
  rotate_left
  · have HF := Lib.hid (HNO1.out (by rw [Hl1.out]; exact h24))
    have d1 : decide (n1 = 24) = false := by simpa using h24
    clear h24
    rw [d1]
    go_wp2
    go_ret
    exact ⟨by rw [HF.out]; rfl, B1⟩
  have d1 : decide (n1 = 24) = true := by simpa using h24
  rw [d1]
  by_cases h24b : n2 = 24
  rotate_left
  · have HF := Lib.hid (HNO2.out (by rw [Hl2.out]; exact h24b))
    have d2 : ((n2 : Int) != 24) = true := by simp; omega
    have d2b : ((n2 : Int) == 24) = false := by rw [beq_eq_false_iff_ne]; omega
    clear h24 h24b d1
    go_wp2
    go_ret
    exact ⟨by rw [HF.out]; rfl, B1⟩
  have d2 : ((n2 : Int) != 24) = false := by simp; omega
  have d2b : ((n2 : Int) == 24) = true := by simp; omega
  have H24 := Lib.hid h24
  have H24b := Lib.hid h24b
  clear h24 h24b d1
  go_wp2
  clear d2 d2b
  go_loopw [3] (fun i wr => ∃ j : Nat, j ≤ n2 ∧ i = .int .i64 j ∧ Hid (∀ (k : Nat) (hk : k < S.ds.length), k < j → S.ds[k].size = 4) ∧ W1 = wr) (fun i _ => n2 - (intOf i).toNat)
  case atStart => exact ⟨0, by omega, rfl, fun k _ h => by omega, rfl⟩
  case round =>
    obtain ⟨j, hj, rfl, HN, rfl⟩ := hrel
    by_cases hlt : j < n2
    · obtain ⟨hkx, ad, rfl, _, z0⟩ := reads_str Hr2.out hlt
      have q0 : (0 : Int) ≤ ↑j := by omega
      have q1 : (↑j : Int) < ↑n2 := by omega
      have hzj := Hz.out _ (List.getElem_mem hkx)
      obtain ⟨t, ht⟩ : ∃ t, S.ds[j] = t := ⟨_, rfl⟩
      rw [ht] at z0 hzj
      have Ht := Lib.hid ht
      clear ht
      by_cases h4 : t.size = 4
      · have HN2 := Lib.hid (show ∀ (k : Nat) (hk : k < S.ds.length), k < j + 1 → S.ds[k].size = 4 from fun k hk h => by
          by_cases e : k = j
          · subst e; rw [Ht.out]; exact h4
          · exact HN.out k hk (by omega))
        have h4i : ((t.size : Int) == 4) = true := by simp; omega
        have h4n : ((t.size : Int) != 4) = false := by simp; omega
        clear h4
        go_wp2
        go_roundw
        case rel => exact ⟨j + 1, by omega, by go_num, HN2.out, by first | rfl | trivial⟩
        case measure => simp [intOf]; omega
      · have HF := Lib.hid (HNO3.out _ hkx (by rw [Ht.out]; exact h4))
        have h4i : ((t.size : Int) == 4) = false := by rw [beq_eq_false_iff_ne]; omega
        have h4n : ((t.size : Int) != 4) = true := by simp; omega
        clear h4
        go_wp2
        go_ret
        exact ⟨by rw [HF.out]; rfl, B1⟩
    · have HF := Lib.hid (HY.out (Hl1.out.trans H24.out) (Hl2.out.trans H24b.out) (fun k hk => HN.out k hk (by have := Hl2.out; omega)))
      go_wp2
      go_ret
      exact ⟨by rw [HF.out]; rfl, B1⟩

end Go.Proofs.Ytajgenjfhcapjaa
