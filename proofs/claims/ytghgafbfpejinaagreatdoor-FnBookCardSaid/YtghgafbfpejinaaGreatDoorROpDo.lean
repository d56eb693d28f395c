/- A change is done, in both packages. -/
import Derived.Test.YtghgafbfpejinaaGreatDoorRAdd
namespace Go.Proofs.YtghgafbfpejinaaGreatDoor
open Go Go.RowKit

set_option maxRecDepth 100000 in
set_option maxHeartbeats 4000000 in
theorem opDo_impl0 (A : Option Addr) (n c : Nat) (ds : List EntD) (hz : ∀ e ∈ ds, e.s.size ≤ 2000000) (hn : n ≤ 9223372036854775807) (k : Int) (s : ByteArray) (hs : s.size ≤ 2000000) (i : Int) (w : World) (hT : Tab w) (hr : Reads w w.heap.size 4 A n (ES ds)) :
  Calls Tryz.prog 34 #[.slice A n c, .agg #[.int .i64 k, .string s, .int .i64 i]] w fun e w' => ChgPost w (doP ds k s i) e w' ∧ Below w.heap.size w w' := by
 have hl : ds.length = n := by have := hr.1; rw [ES_length] at this; omega
 have Hr := Lib.hid hr
 have HL := Lib.hid hl
 have HT := Lib.hid hT
 clear hT
 clear hr hl
 obtain ⟨W1, hW1⟩ : ∃ W, w.alloc (.cells #[.int .i64 k, .string s, .int .i64 i] 32) = W := ⟨_, rfl⟩
 have B1 : Below w.heap.size w W1 := by rw [← hW1]; exact belA (bel0 w) _
 have hO : Blk W1 w.heap.size 32 #[.int .i64 k, .string s, .int .i64 i] := by rw [← hW1]; exact Blk.new' _ _ _ _ rfl
 have HW1 := Lib.hid hW1
 have c0 := hO.get (x := .int .i64 k) 0 rfl
 have c1 := hO.get (x := .string s) 1 rfl
 have c2 := hO.get (x := .int .i64 i) 2 rfl
 clear hW1 hO
 by_cases k1 : k = 1
 ·subst k1
  rw [doP_1]
  go_enter Tryz.func34, Tryz.ntmps34
  go_wp2_with fail
  rw [HW1.out]
  go_wp2_with fail
  refine (add_impl A n c ds hz hn s hs i _ (HT.out.bl B1) ((Hr.out.below B1).more B1.size)).mono ?_
  rintro e w2 ⟨⟨L, b, u, m, hL, hm, rfl, own2⟩, hb2⟩
  have HP := Lib.hid hL
  have Own2 := Lib.hid own2
  have Hm := Lib.hid hm
  clear hL own2 hm
  go_wp2
  refine bodyPost_ret (v := .tuple #[u, .bool b]) (by simp [results, Tryz.results34, go_sem]) rfl ⟨chg_end HP.out rfl Hm.out (own_more Own2.out B1.size), belN B1 hb2⟩
 by_cases k2 : k = 2
 ·subst k2
  rw [doP_2]
  go_enter Tryz.func34, Tryz.ntmps34
  go_wp2_with fail
  rw [HW1.out]
  go_wp2_with fail
  refine (drop_impl A n c ds hz hn s hs  _ (HT.out.bl B1) ((Hr.out.below B1).more B1.size)).mono ?_
  rintro e w2 ⟨⟨L, b, u, m, hL, hm, rfl, own2⟩, hb2⟩
  have HP := Lib.hid hL
  have Own2 := Lib.hid own2
  have Hm := Lib.hid hm
  clear hL own2 hm
  go_wp2
  refine bodyPost_ret (v := .tuple #[u, .bool b]) (by simp [results, Tryz.results34, go_sem]) rfl ⟨chg_end HP.out rfl Hm.out (own_more Own2.out B1.size), belN B1 hb2⟩
 by_cases k3 : k = 3
 ·subst k3
  rw [doP_3]
  go_enter Tryz.func34, Tryz.ntmps34
  go_wp2_with fail
  rw [HW1.out]
  go_wp2_with fail
  refine (respell_impl A n c ds hz hn s hs i _ (HT.out.bl B1) ((Hr.out.below B1).more B1.size)).mono ?_
  rintro e w2 ⟨⟨L, b, u, m, hL, hm, rfl, own2⟩, hb2⟩
  have HP := Lib.hid hL
  have Own2 := Lib.hid own2
  have Hm := Lib.hid hm
  clear hL own2 hm
  go_wp2
  refine bodyPost_ret (v := .tuple #[u, .bool b]) (by simp [results, Tryz.results34, go_sem]) rfl ⟨chg_end HP.out rfl Hm.out (own_more Own2.out B1.size), belN B1 hb2⟩
 rw [doP_n ⟨k1, k2, k3⟩]
 rcases hok : dirOkB ds with _ | _
 ·rw [if_neg (by simp)]
  have Hok := Lib.hid hok
  clear hok
  go_enter Tryz.func34, Tryz.ntmps34
  go_wp2_with fail
  rw [HW1.out]
  go_wp2_with fail
  refine (dirOk_impl A n c ds hz _ (HT.out.bl B1) hn ((Hr.out.below B1).more B1.size)).mono ?_
  rintro e w2 ⟨rfl, hb2⟩
  rw [Hok.out]
  go_wp2
  refine bodyPost_ret (v := .tuple #[.slice none 0 0, .bool false]) (by simp [results, Tryz.results34, go_sem]) rfl ⟨chg_bad rfl rfl, belN B1 hb2⟩
 ·rw [if_pos rfl]
  have h12 : n ≤ 12 := by have := dir12 hok; have := HL.out; omega
  have Hok := Lib.hid hok
  clear hok
  go_enter Tryz.func34, Tryz.ntmps34
  go_wp2_with fail
  rw [HW1.out]
  go_wp2_with fail
  refine (dirOk_impl A n c ds hz _ (HT.out.bl B1) hn ((Hr.out.below B1).more B1.size)).mono ?_
  rintro e w2 ⟨rfl, hb2⟩
  rw [Hok.out]
  have B2 := belN B1 hb2
  go_wp2_with fail
  refine (copyEnts_impl A n c ds (by omega) _ ((Hr.out.below B2).more B2.size)).mono ?_
  rintro e w3 ⟨v, rfl, own3, hb3⟩
  have Own3 := Lib.hid own3
  clear own3
  go_wp2
  refine bodyPost_ret (v := .tuple #[v, .bool false]) (by simp [results, Tryz.results34, go_sem]) rfl ⟨chg_end rfl rfl HL.out (own_more Own3.out B2.size), belN B2 hb3⟩

theorem opDo_impl (v : Value) (ds : List EntD) (sm : szS ds ≤ 1048576) (k : Int) (s : ByteArray) (i : Int) (hs : s.size ≤ 2000000) {L : List EntD} {b : Bool} (h : doP ds k s i = (L, b)) (w : World) (hT : Tab w) (hI : IsS w v ds) :
  Calls Tryz.prog 34 #[v, .agg #[.int .i64 k, .string s, .int .i64 i]] w fun e w' => ∃ v' lo hi, e = .returned (.tuple #[v', .bool b]) ∧ w.heap.size ≤ lo ∧ InAt (OwnS lo v' L) lo hi w' ∧ Below w.heap.size w w' := by
 obtain ⟨A, c, rfl, hr⟩ := hI
 have hn : ds.length ≤ 9223372036854775807 := by have := szS_n ds; omega
 refine (opDo_impl0 A ds.length c ds (s_names sm) hn k s hs i w hT hr).mono ?_
 rintro e w' ⟨⟨L', b', u, m, hL, hm, rfl, own⟩, hb⟩
 rw [h] at hL
 injection hL with h1 h2
 subst h1 h2
 exact ⟨u, w.heap.size, _, rfl, Nat.le_refl _, own_inS hm own, hb⟩

set_option maxRecDepth 100000 in
set_option maxHeartbeats 4000000 in
theorem opDo_spec0 (A : Option Addr) (n c : Nat) (ds : List EntD) (hz : ∀ e ∈ ds, e.s.size ≤ 2000000) (hn : n ≤ 9223372036854775807) (k : Int) (s : ByteArray) (hs : s.size ≤ 2000000) (i : Int) (w : World) (hr : Reads w w.heap.size 4 A n (ES ds)) :
  Calls Tryz.prog 15 #[.slice A n c, .agg #[.int .i64 k, .string s, .int .i64 i]] w fun e w' => ChgPost w (doP ds k s i) e w' ∧ Below w.heap.size w w' := by
 have hl : ds.length = n := by have := hr.1; rw [ES_length] at this; omega
 have Hr := Lib.hid hr
 have HL := Lib.hid hl
 clear hr hl
 obtain ⟨W1, hW1⟩ : ∃ W, w.alloc (.cells #[.int .i64 k, .string s, .int .i64 i] 32) = W := ⟨_, rfl⟩
 have B1 : Below w.heap.size w W1 := by rw [← hW1]; exact belA (bel0 w) _
 have hO : Blk W1 w.heap.size 32 #[.int .i64 k, .string s, .int .i64 i] := by rw [← hW1]; exact Blk.new' _ _ _ _ rfl
 have HW1 := Lib.hid hW1
 have c0 := hO.get (x := .int .i64 k) 0 rfl
 have c1 := hO.get (x := .string s) 1 rfl
 have c2 := hO.get (x := .int .i64 i) 2 rfl
 clear hW1 hO
 by_cases k1 : k = 1
 ·subst k1
  rw [doP_1]
  go_enter Tryz.func15, Tryz.ntmps15
  go_wp2_with fail
  rw [HW1.out]
  go_wp2_with fail
  refine (add_spec A n c ds hz hn s hs i _ ((Hr.out.below B1).more B1.size)).mono ?_
  rintro e w2 ⟨⟨L, b, u, m, hL, hm, rfl, own2⟩, hb2⟩
  have HP := Lib.hid hL
  have Own2 := Lib.hid own2
  have Hm := Lib.hid hm
  clear hL own2 hm
  go_wp2
  refine bodyPost_ret (v := .tuple #[u, .bool b]) (by simp [results, Tryz.results15, go_sem]) rfl ⟨chg_end HP.out rfl Hm.out (own_more Own2.out B1.size), belN B1 hb2⟩
 by_cases k2 : k = 2
 ·subst k2
  rw [doP_2]
  go_enter Tryz.func15, Tryz.ntmps15
  go_wp2_with fail
  rw [HW1.out]
  go_wp2_with fail
  refine (drop_spec A n c ds hz hn s hs  _ ((Hr.out.below B1).more B1.size)).mono ?_
  rintro e w2 ⟨⟨L, b, u, m, hL, hm, rfl, own2⟩, hb2⟩
  have HP := Lib.hid hL
  have Own2 := Lib.hid own2
  have Hm := Lib.hid hm
  clear hL own2 hm
  go_wp2
  refine bodyPost_ret (v := .tuple #[u, .bool b]) (by simp [results, Tryz.results15, go_sem]) rfl ⟨chg_end HP.out rfl Hm.out (own_more Own2.out B1.size), belN B1 hb2⟩
 by_cases k3 : k = 3
 ·subst k3
  rw [doP_3]
  go_enter Tryz.func15, Tryz.ntmps15
  go_wp2_with fail
  rw [HW1.out]
  go_wp2_with fail
  refine (respell_spec A n c ds hz hn s hs i _ ((Hr.out.below B1).more B1.size)).mono ?_
  rintro e w2 ⟨⟨L, b, u, m, hL, hm, rfl, own2⟩, hb2⟩
  have HP := Lib.hid hL
  have Own2 := Lib.hid own2
  have Hm := Lib.hid hm
  clear hL own2 hm
  go_wp2
  refine bodyPost_ret (v := .tuple #[u, .bool b]) (by simp [results, Tryz.results15, go_sem]) rfl ⟨chg_end HP.out rfl Hm.out (own_more Own2.out B1.size), belN B1 hb2⟩
 rw [doP_n ⟨k1, k2, k3⟩]
 rcases hok : dirOkB ds with _ | _
 ·rw [if_neg (by simp)]
  have Hok := Lib.hid hok
  clear hok
  go_enter Tryz.func15, Tryz.ntmps15
  go_wp2_with fail
  rw [HW1.out]
  go_wp2_with fail
  refine (dirOk_spec A n c ds hz _ hn ((Hr.out.below B1).more B1.size)).mono ?_
  rintro e w2 ⟨rfl, hb2⟩
  rw [Hok.out]
  go_wp2
  refine bodyPost_ret (v := .tuple #[.slice (some ⟨w2.heap.size, 0, none⟩) 0 0, .bool false]) (by simp [results, Tryz.results15, go_sem]) rfl ⟨lit_end rfl rfl (Nat.le_trans B1.size hb2.size) (heap_alloc_new w2 _), belA (belN B1 hb2) _⟩
 ·rw [if_pos rfl]
  have h12 : n ≤ 12 := by have := dir12 hok; have := HL.out; omega
  have Hok := Lib.hid hok
  clear hok
  go_enter Tryz.func15, Tryz.ntmps15
  go_wp2_with fail
  rw [HW1.out]
  go_wp2_with fail
  refine (dirOk_spec A n c ds hz _ hn ((Hr.out.below B1).more B1.size)).mono ?_
  rintro e w2 ⟨rfl, hb2⟩
  rw [Hok.out]
  have B2 := belN B1 hb2
  go_wp2_with fail
  refine (l5Copy_any A n c ds (by omega) _ ((Hr.out.below B2).more B2.size)).mono ?_
  rintro e w3 ⟨v, rfl, own3, hb3⟩
  have Own3 := Lib.hid own3
  clear own3
  go_wp2
  refine bodyPost_ret (v := .tuple #[v, .bool false]) (by simp [results, Tryz.results15, go_sem]) rfl ⟨chg_end rfl rfl HL.out (own_more Own3.out B2.size), belN B2 hb3⟩

theorem opDo_spec (v : Value) (ds : List EntD) (sm : szS ds ≤ 1048576) (k : Int) (s : ByteArray) (i : Int) (hs : s.size ≤ 2000000) {L : List EntD} {b : Bool} (h : doP ds k s i = (L, b)) (w : World) (hI : IsS w v ds) :
  Calls Tryz.prog 15 #[v, .agg #[.int .i64 k, .string s, .int .i64 i]] w fun e w' => ∃ v' lo hi, e = .returned (.tuple #[v', .bool b]) ∧ w.heap.size ≤ lo ∧ InAt (OwnS lo v' L) lo hi w' ∧ Below w.heap.size w w' := by
 obtain ⟨A, c, rfl, hr⟩ := hI
 have hn : ds.length ≤ 9223372036854775807 := by have := szS_n ds; omega
 refine (opDo_spec0 A ds.length c ds (s_names sm) hn k s hs i w hr).mono ?_
 rintro e w' ⟨⟨L', b', u, m, hL, hm, rfl, own⟩, hb⟩
 rw [h] at hL
 injection hL with h1 h2
 subst h1 h2
 exact ⟨u, w.heap.size, _, rfl, Nat.le_refl _, own_inS hm own, hb⟩

end Go.Proofs.YtghgafbfpejinaaGreatDoor
