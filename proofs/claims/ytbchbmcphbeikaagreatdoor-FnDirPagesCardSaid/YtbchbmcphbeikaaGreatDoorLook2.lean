/- An entry by a name, of a directory and of pages, in both packages. -/
import Derived.Test.YtbchbmcphbeikaaGreatDoorLook
namespace Go.Proofs.YtbchbmcphbeikaaGreatDoor
open Go Go.RowKit

theorem dp_no_look {ps : List (List EntD)} {s : ByteArray} (h : dpOkB ps = false) : lookP (pgL ps) s = (EntD.zero, false) := by
  unfold dpOkB at h
  cases ho : okPB ps
  · rw [pgL_no ho]; exact lookP_none dirOk_nil rfl
  · rw [ho, Bool.true_and] at h; exact lookP_bad h

set_option maxRecDepth 100000 in
set_option maxHeartbeats 4000000 in
theorem look_impl (A : Option Addr) (n c : Nat) (ds : List EntD) (hz : ∀ e ∈ ds, e.s.size ≤ 2000000) (hn : n ≤ 9223372036854775807) (s : ByteArray) (hs : s.size ≤ 2000000) (w : World) (hT : Tab w) (hr : Reads w w.heap.size 4 A n (ES ds)) :
    Calls Tryz.prog 28 #[.slice A n c, .string s] w fun e w' => EntPost (lookP ds s) e ∧ Below w.heap.size w w' := by
  have hl : ds.length = n := by have := hr.1; rw [ES_length] at this; omega
  have Hr := Lib.hid hr
  have Hz := Lib.hid hz
  have HL := Lib.hid hl
  have HT := Lib.hid hT
  clear hT
  clear hr hz hl
  have hR0 := Lib.hid ((Hr.out.below (belA (bel0 w) (.cells #[.int .i64 0, .int .i64 0, .string ⟨#[]⟩, .int .i64 0] 40))).more (by simp : w.heap.size ≤ (w.alloc (.cells #[.int .i64 0, .int .i64 0, .string ⟨#[]⟩, .int .i64 0] 40)).heap.size))
  rcases hok : dirOkB ds with _ | _
  · have Hf := Lib.hid (lookP_bad (s := s) hok)
    have Hok := Lib.hid hok
    clear hok
    go_enter Tryz.func28, Tryz.ntmps28
    go_wp2_with fail
    refine (entAt_impl A n c ds Hz.out hn s hs _ (HT.out.al _) hR0.out).mono ?_
    rintro e w1 ⟨r, rfl, hat, hb1⟩
    have hB := (Blk.new' w 40 #[.int .i64 0, .int .i64 0, .string ⟨#[]⟩, .int .i64 0] w.heap.size).below hb1 (by simp)
    have b1 := belN (belA (bel0 w) _) hb1
    rcases at_neg hat with rfl | ⟨k, hk, rfl⟩
    · clear hat
      have c0 := hB.get 0 rfl
      have c1 := hB.get 1 rfl
      have c2 := hB.get 2 rfl
      have c3 := hB.get 3 rfl
      have f0 := hB.frozen 0
      have f1 := hB.frozen 1
      have f2 := hB.frozen 2
      have f3 := hB.frozen 3
      have hlt := hB.lt
      go_wp2
      refine bodyPost_ret (v := .tuple #[.agg #[.int .i64 0, .int .i64 0, .string ⟨#[]⟩, .int .i64 0], .bool false]) (by simp [results, Tryz.results28, go_sem, c0, c1, c2, c3]) rfl ⟨entPost_end Hf.out rfl, ?_⟩
      repeat (first | exact b1 | apply Below.drew | refine belA ?_ _ | refine belC ?_ _ _ (by omega) _)
    · clear hat
      have q0 : (0 : Int) ≤ ↑k := by omega
      go_wp2_with fail
      refine (dirOk_impl A n c ds Hz.out _ ((HT.out.al _).bl hb1) hn ((hR0.out.below hb1).more hb1.size)).mono ?_
      rintro e w2 ⟨rfl, hb2⟩
      rw [Hok.out]
      have hB2 := hB.below hb2 hB.lt
      have b2 := belN b1 hb2
      have c0 := hB2.get 0 rfl
      have c1 := hB2.get 1 rfl
      have c2 := hB2.get 2 rfl
      have c3 := hB2.get 3 rfl
      have f0 := hB2.frozen 0
      have f1 := hB2.frozen 1
      have f2 := hB2.frozen 2
      have f3 := hB2.frozen 3
      have hlt := hB2.lt
      go_wp2
      refine bodyPost_ret (v := .tuple #[.agg #[.int .i64 0, .int .i64 0, .string ⟨#[]⟩, .int .i64 0], .bool false]) (by simp [results, Tryz.results28, go_sem, c0, c1, c2, c3]) rfl ⟨entPost_end Hf.out rfl, ?_⟩
      repeat (first | exact b2 | apply Below.drew | refine belA ?_ _ | refine belC ?_ _ _ (by omega) _)
  · have Hok := Lib.hid hok
    clear hok
    go_enter Tryz.func28, Tryz.ntmps28
    go_wp2_with fail
    refine (entAt_impl A n c ds Hz.out hn s hs _ (HT.out.al _) hR0.out).mono ?_
    rintro e w1 ⟨r, rfl, hat, hb1⟩
    have hB := (Blk.new' w 40 #[.int .i64 0, .int .i64 0, .string ⟨#[]⟩, .int .i64 0] w.heap.size).below hb1 (by simp)
    have b1 := belN (belA (bel0 w) _) hb1
    rcases at_idx Hok.out hat with ⟨rfl, hfd⟩ | ⟨k, hk, rfl, hfd⟩
    · have Hf := Lib.hid (lookP_none Hok.out hfd)
      clear hat hfd
      have c0 := hB.get 0 rfl
      have c1 := hB.get 1 rfl
      have c2 := hB.get 2 rfl
      have c3 := hB.get 3 rfl
      have f0 := hB.frozen 0
      have f1 := hB.frozen 1
      have f2 := hB.frozen 2
      have f3 := hB.frozen 3
      have hlt := hB.lt
      go_wp2
      refine bodyPost_ret (v := .tuple #[.agg #[.int .i64 0, .int .i64 0, .string ⟨#[]⟩, .int .i64 0], .bool false]) (by simp [results, Tryz.results28, go_sem, c0, c1, c2, c3]) rfl ⟨entPost_end Hf.out rfl, ?_⟩
      repeat (first | exact b1 | apply Below.drew | refine belA ?_ _ | refine belC ?_ _ _ (by omega) _)
    · clear hat
      have hkn : k < n := by have := HL.out; omega
      have q0 : (0 : Int) ≤ ↑k := by omega
      go_wp2_with fail
      refine (dirOk_impl A n c ds Hz.out _ ((HT.out.al _).bl hb1) hn ((hR0.out.below hb1).more hb1.size)).mono ?_
      rintro e w2 ⟨rfl, hb2⟩
      rw [Hok.out]
      have hB2 := hB.below hb2 hB.lt
      have b2 := belN b1 hb2
      obtain ⟨hkx, b, o, rfl, hadb, z0, z1, z2, z3⟩ := reads_ent (Hr.out.below b2) (k := k) (by omega)
      have q1 : (↑k : Int) < ↑n := by omega
      obtain ⟨E, hE⟩ : ∃ E, ds[k] = E := ⟨_, rfl⟩
      rw [hE] at z0 z1 z2 z3 hfd
      have Hf := Lib.hid (lookP_some Hok.out hfd)
      have nb : b ≠ w.heap.size := by omega
      clear hE hfd
      have c0 := hB2.get 0 rfl
      have c1 := hB2.get 1 rfl
      have c2 := hB2.get 2 rfl
      have c3 := hB2.get 3 rfl
      have f0 := hB2.frozen 0
      have f1 := hB2.frozen 1
      have f2 := hB2.frozen 2
      have f3 := hB2.frozen 3
      have hlt := hB2.lt
      have hF := ((((hB2.put 0 (.int .i64 E.h) #[.int .i64 E.h, .int .i64 0, .string ⟨#[]⟩, .int .i64 0] rfl).put 1 (.int .i64 E.i) #[.int .i64 E.h, .int .i64 E.i, .string ⟨#[]⟩, .int .i64 0] rfl).put 2 (.string E.s) #[.int .i64 E.h, .int .i64 E.i, .string E.s, .int .i64 0] rfl).put 3 (.int .i64 E.d) #[.int .i64 E.h, .int .i64 E.i, .string E.s, .int .i64 E.d] rfl)
      have r0 := Lib.hid (hF.get (x := .int .i64 E.h) 0 rfl)
      have r1 := Lib.hid (hF.get (x := .int .i64 E.i) 1 rfl)
      have r2 := Lib.hid (hF.get (x := .string E.s) 2 rfl)
      have r3 := Lib.hid (hF.get (x := .int .i64 E.d) 3 rfl)
      go_wp2
      refine bodyPost_ret (v := .tuple #[.agg #[.int .i64 E.h, .int .i64 E.i, .string E.s, .int .i64 E.d], .bool true]) (by simp [results, Tryz.results28, go_sem, r0.out, r1.out, r2.out, r3.out]) rfl ⟨entPost_end Hf.out rfl, ?_⟩
      repeat (first | exact b2 | apply Below.drew | refine belA ?_ _ | refine belC ?_ _ _ (by omega) _)

set_option maxRecDepth 100000 in
set_option maxHeartbeats 4000000 in
theorem look_spec (A : Option Addr) (n c : Nat) (ds : List EntD) (hz : ∀ e ∈ ds, e.s.size ≤ 2000000) (hn : n ≤ 9223372036854775807) (s : ByteArray) (hs : s.size ≤ 2000000) (w : World) (hr : Reads w w.heap.size 4 A n (ES ds)) :
    Calls Tryz.prog 15 #[.slice A n c, .string s] w fun e w' => EntPost (lookP ds s) e ∧ Below w.heap.size w w' := by
  have hl : ds.length = n := by have := hr.1; rw [ES_length] at this; omega
  have Hr := Lib.hid hr
  have Hz := Lib.hid hz
  have HL := Lib.hid hl
  clear hr hz hl
  have hR0 := Lib.hid ((Hr.out.below (belA (bel0 w) (.cells #[.int .i64 0, .int .i64 0, .string ⟨#[]⟩, .int .i64 0] 40))).more (by simp : w.heap.size ≤ (w.alloc (.cells #[.int .i64 0, .int .i64 0, .string ⟨#[]⟩, .int .i64 0] 40)).heap.size))
  rcases hok : dirOkB ds with _ | _
  · have Hf := Lib.hid (lookP_bad (s := s) hok)
    have Hok := Lib.hid hok
    clear hok
    go_enter Tryz.func15, Tryz.ntmps15
    go_wp2_with fail
    refine (dirOk_spec A n c ds Hz.out _ hn hR0.out).mono ?_
    rintro e w1 ⟨rfl, hb1⟩
    rw [Hok.out]
    have hB := (Blk.new' w 40 #[.int .i64 0, .int .i64 0, .string ⟨#[]⟩, .int .i64 0] w.heap.size).below hb1 (by simp)
    have b1 := belN (belA (bel0 w) _) hb1
    have c0 := hB.get 0 rfl
    have c1 := hB.get 1 rfl
    have c2 := hB.get 2 rfl
    have c3 := hB.get 3 rfl
    have f0 := hB.frozen 0
    have f1 := hB.frozen 1
    have f2 := hB.frozen 2
    have f3 := hB.frozen 3
    have hlt := hB.lt
    go_wp2
    refine bodyPost_ret (v := .tuple #[.agg #[.int .i64 0, .int .i64 0, .string ⟨#[]⟩, .int .i64 0], .bool false]) (by simp [results, Tryz.results15, go_sem, c0, c1, c2, c3]) rfl ⟨entPost_end Hf.out rfl, ?_⟩
    repeat (first | exact b1 | apply Below.drew | refine belA ?_ _ | refine belC ?_ _ _ (by omega) _)
  · have Hok := Lib.hid hok
    clear hok
    go_enter Tryz.func15, Tryz.ntmps15
    go_wp2_with fail
    refine (dirOk_spec A n c ds Hz.out _ hn hR0.out).mono ?_
    rintro e w1 ⟨rfl, hb1⟩
    rw [Hok.out]
    have hB := (Blk.new' w 40 #[.int .i64 0, .int .i64 0, .string ⟨#[]⟩, .int .i64 0] w.heap.size).below hb1 (by simp)
    have b1 := belN (belA (bel0 w) _) hb1
    go_wp2_with fail
    refine (l5At_any A n c ds Hz.out hn s hs _ ((hR0.out.below hb1).more hb1.size)).mono ?_
    rintro e w2 ⟨r, rfl, hidx, hb2⟩
    have hB2 := hB.below hb2 hB.lt
    have b2 := belN b1 hb2
    rcases hidx with ⟨rfl, hfd⟩ | ⟨k, hk, rfl, hfd⟩
    · have Hf := Lib.hid (lookP_none Hok.out hfd)
      clear hfd
      have c0 := hB2.get 0 rfl
      have c1 := hB2.get 1 rfl
      have c2 := hB2.get 2 rfl
      have c3 := hB2.get 3 rfl
      have f0 := hB2.frozen 0
      have f1 := hB2.frozen 1
      have f2 := hB2.frozen 2
      have f3 := hB2.frozen 3
      have hlt := hB2.lt
      go_wp2
      refine bodyPost_ret (v := .tuple #[.agg #[.int .i64 0, .int .i64 0, .string ⟨#[]⟩, .int .i64 0], .bool false]) (by simp [results, Tryz.results15, go_sem, c0, c1, c2, c3]) rfl ⟨entPost_end Hf.out rfl, ?_⟩
      repeat (first | exact b2 | apply Below.drew | refine belA ?_ _ | refine belC ?_ _ _ (by omega) _)
    · have hkn : k < n := by have := HL.out; omega
      have q0 : (0 : Int) ≤ ↑k := by omega
      obtain ⟨hkx, b, o, rfl, hadb, z0, z1, z2, z3⟩ := reads_ent (Hr.out.below b2) (k := k) (by omega)
      have q1 : (↑k : Int) < ↑n := by omega
      obtain ⟨E, hE⟩ : ∃ E, ds[k] = E := ⟨_, rfl⟩
      rw [hE] at z0 z1 z2 z3 hfd
      have Hf := Lib.hid (lookP_some Hok.out hfd)
      have nb : b ≠ w.heap.size := by omega
      clear hE hfd
      have c0 := hB2.get 0 rfl
      have c1 := hB2.get 1 rfl
      have c2 := hB2.get 2 rfl
      have c3 := hB2.get 3 rfl
      have f0 := hB2.frozen 0
      have f1 := hB2.frozen 1
      have f2 := hB2.frozen 2
      have f3 := hB2.frozen 3
      have hlt := hB2.lt
      have hF := ((((hB2.put 0 (.int .i64 E.h) #[.int .i64 E.h, .int .i64 0, .string ⟨#[]⟩, .int .i64 0] rfl).put 1 (.int .i64 E.i) #[.int .i64 E.h, .int .i64 E.i, .string ⟨#[]⟩, .int .i64 0] rfl).put 2 (.string E.s) #[.int .i64 E.h, .int .i64 E.i, .string E.s, .int .i64 0] rfl).put 3 (.int .i64 E.d) #[.int .i64 E.h, .int .i64 E.i, .string E.s, .int .i64 E.d] rfl)
      have r0 := Lib.hid (hF.get (x := .int .i64 E.h) 0 rfl)
      have r1 := Lib.hid (hF.get (x := .int .i64 E.i) 1 rfl)
      have r2 := Lib.hid (hF.get (x := .string E.s) 2 rfl)
      have r3 := Lib.hid (hF.get (x := .int .i64 E.d) 3 rfl)
      go_wp2
      refine bodyPost_ret (v := .tuple #[.agg #[.int .i64 E.h, .int .i64 E.i, .string E.s, .int .i64 E.d], .bool true]) (by simp [results, Tryz.results15, go_sem, r0.out, r1.out, r2.out, r3.out]) rfl ⟨entPost_end Hf.out rfl, ?_⟩
      repeat (first | exact b2 | apply Below.drew | refine belA ?_ _ | refine belC ?_ _ _ (by omega) _)

set_option maxRecDepth 100000 in
set_option maxHeartbeats 2000000 in
theorem dpLook_impl (v : Value) (ps : List (List EntD)) (sm : szSS ps ≤ 1048576) (s : ByteArray) (hs : s.size ≤ 2000000) (w : World) (hT : Tab w) (h : IsSS w v ps) :
    Calls Tryz.prog 14 #[v, .string s] w fun e w' => EntPost (lookP (pgL ps) s) e ∧ Below w.heap.size w w' := by
  have HT := Lib.hid hT
  clear hT
  have hf := dp_flat sm
  have hn := dp_len sm
  have hp := dp_pgL sm
  have hA := h.next (belA (bel0 w) (.cells #[.int .i64 0, .int .i64 0, .string ⟨#[]⟩, .int .i64 0] 40))
  have HA := Lib.hid hA
  clear h hA
  rcases hok : dpOkB ps with _ | _
  · have Hf := Lib.hid (dp_no_look (s := s) hok)
    have Hok := Lib.hid hok
    clear hok
    go_enter Tryz.func14, Tryz.ntmps14
    go_wp2_with fail
    refine (dpOk_impl v ps sm _ (HT.out.al _) HA.out).mono ?_
    rintro e w1 ⟨rfl, hb1⟩
    rw [Hok.out]
    have hB := (Blk.new' w 40 #[.int .i64 0, .int .i64 0, .string ⟨#[]⟩, .int .i64 0] w.heap.size).below hb1 (by simp)
    have b1 := belN (belA (bel0 w) _) hb1
    have c0 := hB.get 0 rfl
    have c1 := hB.get 1 rfl
    have c2 := hB.get 2 rfl
    have c3 := hB.get 3 rfl
    have f0 := hB.frozen 0
    have f1 := hB.frozen 1
    have f2 := hB.frozen 2
    have f3 := hB.frozen 3
    have hlt := hB.lt
    go_wp2
    refine bodyPost_ret (v := .tuple #[.agg #[.int .i64 0, .int .i64 0, .string ⟨#[]⟩, .int .i64 0], .bool false]) (by simp [results, Tryz.results14, go_sem, c0, c1, c2, c3]) rfl ⟨entPost_end Hf.out rfl, ?_⟩
    repeat (first | exact b1 | apply Below.drew | refine belA ?_ _ | refine belC ?_ _ _ (by omega) _)
  · have Hok := Lib.hid hok
    clear hok
    go_enter Tryz.func14, Tryz.ntmps14
    go_wp2_with fail
    refine (dpOk_impl v ps sm _ (HT.out.al _) HA.out).mono ?_
    rintro e w1 ⟨rfl, hb1⟩
    rw [Hok.out]
    have hA1 := HA.out.next hb1
    obtain ⟨A, c, rfl, hr⟩ := hA1
    have Hr := Lib.hid hr
    have hB := (Blk.new' w 40 #[.int .i64 0, .int .i64 0, .string ⟨#[]⟩, .int .i64 0] w.heap.size).below hb1 (by simp)
    have b1 := belN (belA (bel0 w) _) hb1
    clear hr
    go_wp2_with fail
    refine (pgList_impl A _ c ps hf hn _ Hr.out).mono ?_
    rintro e w2 ⟨v2, rfl, hown, hb2⟩
    obtain ⟨A2, c2, rfl, _, _, hr2⟩ := own_vals hown
    have b2 := belN b1 hb2
    clear hown
    go_wp2_with fail
    refine (look_impl A2 _ c2 _ (dp_names sm) (by omega) s hs _ (((HT.out.al _).bl hb1).bl hb2) hr2).mono ?_
    rintro e w3 ⟨⟨E, fb, hE, rfl⟩, hb3⟩
    have HE := Lib.hid hE
    have b3 := belN b2 hb3
    have hB3 := (hB.below hb2 hB.lt).below hb3 (hB.below hb2 hB.lt).lt
    clear hE hr2
    have c0 := hB3.get 0 rfl
    have c1 := hB3.get 1 rfl
    have c2 := hB3.get 2 rfl
    have c3 := hB3.get 3 rfl
    have f0 := hB3.frozen 0
    have f1 := hB3.frozen 1
    have f2 := hB3.frozen 2
    have f3 := hB3.frozen 3
    have hlt := hB3.lt
    have hF := ((((hB3.put 0 (.int .i64 E.h) #[.int .i64 E.h, .int .i64 0, .string ⟨#[]⟩, .int .i64 0] rfl).put 1 (.int .i64 E.i) #[.int .i64 E.h, .int .i64 E.i, .string ⟨#[]⟩, .int .i64 0] rfl).put 2 (.string E.s) #[.int .i64 E.h, .int .i64 E.i, .string E.s, .int .i64 0] rfl).put 3 (.int .i64 E.d) #[.int .i64 E.h, .int .i64 E.i, .string E.s, .int .i64 E.d] rfl)
    have r0 := Lib.hid (hF.get (x := .int .i64 E.h) 0 rfl)
    have r1 := Lib.hid (hF.get (x := .int .i64 E.i) 1 rfl)
    have r2 := Lib.hid (hF.get (x := .string E.s) 2 rfl)
    have r3 := Lib.hid (hF.get (x := .int .i64 E.d) 3 rfl)
    go_wp2
    refine bodyPost_ret (v := .tuple #[.agg #[.int .i64 E.h, .int .i64 E.i, .string E.s, .int .i64 E.d], .bool fb]) (by simp [results, Tryz.results14, go_sem, r0.out, r1.out, r2.out, r3.out]) rfl ⟨entPost_end HE.out rfl, ?_⟩
    repeat (first | exact b3 | apply Below.drew | refine belA ?_ _ | refine belC ?_ _ _ (by omega) _)

end Go.Proofs.YtbchbmcphbeikaaGreatDoor
