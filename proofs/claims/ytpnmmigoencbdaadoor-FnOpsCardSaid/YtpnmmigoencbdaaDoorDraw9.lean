/- What is drawn: the draws of FnOps. -/
import Derived.Test.YtpnmmigoencbdaaDoorDraw6
import Derived.Test.YtpnmmigoencbdaaDoorDraw8
import Derived.Test.YtpnmmigoencbdaaDoorSpoil
import Derived.Test.YtpnmmigoencbdaaDoorOp2
import Derived.Test.YtpnmmigoencbdaaDoorLook
namespace Go.Proofs.YtpnmmigoencbdaaDoor
open Go Go.RowKit

set_option maxRecDepth 100000 in
set_option maxHeartbeats 8000000 in
theorem drawShowOp_any (A : Option Addr) (n cp : Nat) (bs : List UInt8) (hn : n ≤ 9223372036854775000) (w : World) (hr : Reads w w.heap.size 1 A n (B8 bs)) :
    Calls Tryd.prog 5 #[.slice A n cp] w fun e w' => ∃ (k : Int) (s : ByteArray) (i : Int), e = .returned (.agg #[.int .i64 k, .string s, .int .i64 i]) ∧ s.size ≤ 25 ∧ Below w.heap.size w w' := by
  have Hr := Lib.hid hr
  clear hr
  obtain ⟨W1, hW1⟩ : ∃ W, w.alloc (.cells #[.int .i64 0, .string ⟨#[]⟩, .int .i64 0] 25) = W := ⟨_, rfl⟩
  have R1 : Blk W1 w.heap.size 25 #[.int .i64 0, .string ⟨#[]⟩, .int .i64 0] := by rw [← hW1]; exact Blk.new' _ _ _ _ rfl
  have B1 : Below w.heap.size w W1 := by rw [← hW1]; exact belA (bel0 _) _
  have HW1 := Lib.hid hW1
  clear hW1
  go_enter Tryd.func5, Tryd.ntmps5
  go_wp2_with fail
  rw [HW1.out]
  refine (l1New_any A n cp bs (by omega) W1 ((Hr.out.below B1).more B1.size)).mono ?_
  rintro e w2 ⟨g, rfl, hg, hc, hb2⟩
  have R2 := R1.below hb2 R1.lt
  have B2 := belN B1 hb2
  go_wp2_with fail
  refine (l25Op_any g A n cp bs (by omega) w2 hc).mono ?_
  rintro e w3 ⟨k, s, i, rfl, hs, hc3, hg3⟩
  have R3 := blk_g R2 hg3 (by have := R1.lt; omega)
  have B3 := belG B2 hg3 (by have := B1.size; omega)
  have b0 := R3.get 0 rfl
  have b1 := R3.get 1 rfl
  have b2 := R3.get 2 rfl
  have f0 := R3.frozen 0
  have f1 := R3.frozen 1
  have f2 := R3.frozen 2
  have lR := R3.lt
  have HR := Lib.hid (((R3.put 0 (.int .i64 k) #[.int .i64 k, .string ⟨#[]⟩, .int .i64 0] rfl).put 1 (.string s) #[.int .i64 k, .string s, .int .i64 0] rfl).put 2 (.int .i64 i) #[.int .i64 k, .string s, .int .i64 i] rfl)
  have hbz : Below w.heap.size w3 (((w3.setCell ⟨w.heap.size, 0, none⟩ (.int .i64 k)).setCell ⟨w.heap.size, 1, none⟩ (.string s)).setCell ⟨w.heap.size, 2, none⟩ (.int .i64 i)) := (((Below.refl _ _).setCell (p := ⟨w.heap.size, 0, none⟩) (Nat.le_refl _) _).setCell (p := ⟨w.heap.size, 1, none⟩) (Nat.le_refl _) _).setCell (p := ⟨w.heap.size, 2, none⟩) (Nat.le_refl _) _
  go_wp2
  have r0 := HR.out.get (x := .int .i64 k) 0 rfl
  have r1 := HR.out.get (x := .string s) 1 rfl
  have r2 := HR.out.get (x := .int .i64 i) 2 rfl
  refine bodyPost_ret (v := .agg #[.int .i64 k, .string s, .int .i64 i]) (by simp [results, Tryd.results5, go_sem, r0, r1, r2]) rfl ⟨k, s, i, rfl, hs, B3.trans hbz⟩

theorem showOp_sz (k i : Int) (s : ByteArray) : (showOpB k s i).size ≤ 14 + s.size := by
  have h1 := varB_size k
  have h2 := varB_size i
  unfold showOpB
  split
  · rw [ByteArray.size_append, ByteArray.size_append]; omega
  · exact Nat.zero_le _
theorem showHome_sz (q : Int) (ds : List EntD) : (showHomeB q ds).size ≤ 600 := by
  unfold showHomeB
  split
  · rename_i h
    rw [Bool.and_eq_true] at h
    have h12 := (dirOkB_iff.1 h.2).1
    have h1 := homeF_size q ds ds h12 (s_short h.2)
    rw [sumB_size]; omega
  · exact Nat.zero_le _

set_option maxRecDepth 100000 in
set_option maxHeartbeats 8000000 in
theorem drawReadOp_any (A : Option Addr) (n cp : Nat) (bs : List UInt8) (hn : n ≤ 9223372036854775000) (w : World) (hr : Reads w w.heap.size 1 A n (B8 bs)) :
    Calls Tryd.prog 10 #[.slice A n cp] w fun e w' => ∃ s : ByteArray, e = .returned (.string s) ∧ s.size ≤ 1000 ∧ Below w.heap.size w w' := by
  go_enter Tryd.func10, Tryd.ntmps10
  go_wp2_with fail
  refine (l1New_any A n cp bs (by omega) w hr).mono ?_
  rintro e w2 ⟨g, rfl, hg, hc, hb2⟩
  go_wp2_with fail
  refine (l25Op_any g A n cp bs (by omega) w2 hc).mono ?_
  rintro e w3 ⟨k, s, i, rfl, hs, hc3, hg3⟩
  have B3 := belG hb2 hg3 hg
  go_wp2_with fail
  refine (showOp_spec k s i (by omega) w3).mono ?_
  rintro e w4 ⟨rfl, hb4⟩
  have B4 := belN B3 hb4
  have hc4 := hc3.below hb4
  have hsz := showOp_sz k i s
  obtain ⟨T, hT⟩ : ∃ T, showOpB k s i = T := ⟨_, rfl⟩
  rw [hT] at hsz
  rw [hT]
  go_wp2_with fail
  refine (l1Once_any g A n cp bs (by omega) 3 (by omega) w4 hc4).mono ?_
  rintro e w5 ⟨b, rfl, hc5, hg5⟩
  have B5 := belG B4 hg5 hg
  cases b
  · go_wp2
    go_ret
    exact ⟨T, rfl, by omega, B5⟩
  · go_wp2_with fail
    refine (l1Spoil_any g A n cp bs (by omega) T (by omega) w5 hc5).mono ?_
    rintro e w6 ⟨t, rfl, ht, hc6, hg6⟩
    go_wp2
    go_ret
    exact ⟨t, rfl, by omega, belG B5 hg6 hg⟩

def sqs : List Int := [0, 1, 300, 1000000, 1000001, -1]
set_option maxRecDepth 100000 in
set_option maxHeartbeats 8000000 in
theorem drawShowHome_any (A : Option Addr) (n cp : Nat) (bs : List UInt8) (hn : n ≤ 9223372036854775000) (w : World) (hr : Reads w w.heap.size 1 A n (B8 bs)) :
    Calls Tryd.prog 12 #[.slice A n cp] w fun e w' => ∃ q v ds, e = .returned (.tuple #[.int .i64 q, v]) ∧ ds.length ≤ 13 ∧ (∀ e ∈ ds, e.s.size ≤ 25) ∧ w'.ownsRow w.heap.size 60 4 v ds.length (ES ds) ∧ Below w.heap.size w w' := by
  go_enter Tryd.func12, Tryd.ntmps12
  go_wp2_with fail
  refine (l1New_any A n cp bs (by omega) w hr).mono ?_
  rintro e w2 ⟨g, rfl, hg, hc, hb2⟩
  go_wp2_with fail
  refine (l1PickInt_any g A n cp bs (by omega) (some ⟨w2.heap.size, 0, none⟩) 6 6 sqs (by omega) (by omega) _ (hc.alloc _) (show Reads _ _ 1 _ _ _ from reads_lit w2 _ _ _ rfl) (fun ad e => by injection e with e; rw [← e]; simp only; have := hc.lt; omega)).mono ?_
  rintro e w3 ⟨q, rfl, _, hc3, hg3⟩
  have B3 := belG (belA hb2 _) hg3 hg
  go_wp2_with fail
  refine (l1Size_any A n cp (by omega) 10 w3).mono ?_
  rintro e w4 ⟨m, rfl, hm, rfl⟩
  go_wp2_with fail
  refine (l5Any_any g A n cp bs (by omega) m (by omega) w3 hc3).mono ?_
  rintro e w5 ⟨v, ds, rfl, hl, hnm, own, hc5, hg5⟩
  have B5 := belG B3 hg5 hg
  have Own := Lib.hid (own_more own B3.size)
  go_wp2
  refine bodyPost_ret (v := .tuple #[.int .i64 q, v]) (by simp [results, Tryd.results12, go_sem]) rfl ⟨q, v, ds, rfl, hl, hnm, Own.out, B5⟩

set_option maxRecDepth 100000 in
set_option maxHeartbeats 8000000 in
theorem drawReadHome_any (A : Option Addr) (n cp : Nat) (bs : List UInt8) (hn : n ≤ 9223372036854775000) (w : World) (hr : Reads w w.heap.size 1 A n (B8 bs)) :
    Calls Tryd.prog 17 #[.slice A n cp] w fun e w' => ∃ s : ByteArray, e = .returned (.string s) ∧ s.size ≤ 1000 ∧ Below w.heap.size w w' := by
  go_enter Tryd.func17, Tryd.ntmps17
  go_wp2_with fail
  refine (l1New_any A n cp bs (by omega) w hr).mono ?_
  rintro e w2 ⟨g, rfl, hg, hc, hb2⟩
  go_wp2_with fail
  refine (l1Below_any g A n cp bs (by omega) 300 (by omega) w2 hc).mono ?_
  rintro e w3 ⟨q, rfl, _, hq, hc3, hg3⟩
  obtain ⟨hq0, hq1⟩ := hq (by omega)
  have B3 := belG hb2 hg3 hg
  go_wp2_with fail
  refine (l1Size_any A n cp (by omega) 8 w3).mono ?_
  rintro e w4 ⟨m, rfl, hm, rfl⟩
  go_wp2_with fail
  refine (l5Dir_any g A n cp bs (by omega) m (by omega) w3 hc3).mono ?_
  rintro e w5 ⟨v, ds, rfl, hok, own, hc5, hg5⟩
  have B5 := belG B3 hg5 hg
  obtain ⟨A5, c5, rfl, _, _, hr5⟩ := own_vals own
  have h12 := (dirOkB_iff.1 hok).1
  have hss := s_short hok
  go_wp2_with fail
  refine (showHome_spec0 q _ ds (fun e he => by have := hss e he; omega) (by omega) w5 ⟨A5, c5, rfl, hr5⟩).mono ?_
  rintro e w6 ⟨rfl, hb6⟩
  have B6 := belN B5 hb6
  have hc6 := hc5.below hb6
  have hsz := showHome_sz q ds
  obtain ⟨T, hT⟩ : ∃ T, showHomeB q ds = T := ⟨_, rfl⟩
  rw [hT] at hsz
  rw [hT]
  clear hT hr5 own hss
  go_wp2_with fail
  refine (l1Below_any g A n cp bs (by omega) 4 (by omega) w6 hc6).mono ?_
  rintro e w7 ⟨y, rfl, _, hy, hc7, hg7⟩
  obtain ⟨hy0, hy1⟩ := hy (by omega)
  have B7 := belG B6 hg7 hg
  by_cases y0 : y = 0
  · subst y0
    go_wp2_with fail
    refine (l1Spoil_any g A n cp bs (by omega) T (by omega) w7 hc7).mono ?_
    rintro e w8 ⟨t, rfl, ht, hc8, hg8⟩
    go_wp2
    go_ret
    exact ⟨t, rfl, by omega, belG B7 hg8 hg⟩
  · by_cases y1 : y = 1
    · subst y1
      by_cases h4 : (T.size : Int) > 4
      · have q4 : (4 : Int) ≤ (T.size : Int) := by omega
        have e4 : (T.extract 4 T.size).size = T.size - 4 := by rw [ByteArray.size_extract]; omega
        obtain ⟨T4, hT4⟩ : ∃ S, T.extract 4 T.size = S := ⟨_, rfl⟩
        rw [hT4] at e4
        go_wp2_with fail
        try rw [hT4]
        refine (l1Spoil_any g A n cp bs (by omega) T4 (by omega) w7 hc7).mono ?_
        rintro e w8 ⟨t, rfl, ht, hc8, hg8⟩
        have B8 := belG B7 hg8 hg
        go_wp2_with fail
        refine (crc_spec t (by omega) w8).mono ?_
        rintro e w9 ⟨rfl, rfl⟩
        have hcr := crcB_bd t
        have bb : ¬ (9223372036854775807 < 4 + t.size) := by omega
        go_wp2_with fail
        refine (fixed_spec (crcB t) (by omega) (by omega) w8).mono ?_
        rintro e w10 ⟨rfl, hb10⟩
        have hf := fix4_size (crcB t)
        go_wp2
        go_ret
        exact ⟨_, rfl, by rw [ByteArray.size_append, hf]; omega, belN B8 hb10⟩
      · go_wp2
        go_ret
        exact ⟨T, rfl, by omega, B7⟩
    · go_wp2
      go_ret
      exact ⟨T, rfl, by omega, B7⟩

end Go.Proofs.YtpnmmigoencbdaaDoor
