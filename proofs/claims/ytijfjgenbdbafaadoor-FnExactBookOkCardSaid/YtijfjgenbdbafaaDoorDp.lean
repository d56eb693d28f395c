/- Pages that are a directory, in both packages. -/
import Derived.Test.YtijfjgenbdbafaaDoorNext
namespace Go.Proofs.YtijfjgenbdbafaaDoor
open Go Go.RowKit

theorem PagesAt.next {w w' : World} {A : Option Addr} {n : Nat} {ps : List (List EntD)} (h : PagesAt w w.heap.size A n ps) (hb : Below w.heap.size w w') : PagesAt w' w'.heap.size A n ps := (h.below hb).more hb.size
/-- Pages are a directory. -/
noncomputable def dpOkB (ps : List (List EntD)) : Bool := okPB ps && dirOkB (pgL ps)
theorem dp_flat {ps : List (List EntD)} (sm : szSS ps ≤ 1048576) : ps.flatten.length ≤ 10000000 := by have := szSS_flat ps; omega
theorem dp_len {ps : List (List EntD)} (sm : szSS ps ≤ 1048576) : ps.length ≤ 10000000 := by have := szSS_len ps; omega
theorem dp_pgL {ps : List (List EntD)} (sm : szSS ps ≤ 1048576) : (pgL ps).length ≤ 10000000 := by have := pgL_len ps; have := dp_flat sm; omega
theorem dp_names {ps : List (List EntD)} (sm : szSS ps ≤ 1048576) : ∀ e ∈ pgL ps, e.s.size ≤ 2000000 := fun e he => by
  unfold pgL at he
  split at he
  · have := szSS_name ps e he; omega
  · cases he
theorem dirOk_nil : dirOkB [] = true := dirOkB_true ⟨by simp, fun i h => absurd h (by simp)⟩
theorem dp_no {ps : List (List EntD)} {x y : Int} (h : dpOkB ps = false) : nxtP (pgL ps) x y = (EntD.zero, false) := by
  unfold dpOkB at h
  cases ho : okPB ps
  · rw [pgL_no ho]; exact nxtP_none dirOk_nil rfl
  · rw [ho, Bool.true_and] at h; exact nxtP_bad h

set_option maxRecDepth 100000 in
set_option maxHeartbeats 2000000 in
theorem dpOk_impl (v : Value) (ps : List (List EntD)) (sm : szSS ps ≤ 1048576) (w : World) (hT : Tab w) (h : IsSS w v ps) :
    Calls Tryd.prog 23 #[v] w fun e w' => e = .returned (.bool (dpOkB ps)) ∧ Below w.heap.size w w' := by
  have HT := Lib.hid hT
  clear hT
  have hf := dp_flat sm
  have hn := dp_len sm
  have hp := dp_pgL sm
  obtain ⟨A, c, rfl, hr⟩ := h
  have Hr := Lib.hid hr
  clear hr
  rcases hok : okPB ps with _ | _
  · have Hf := Lib.hid (show dpOkB ps = false by unfold dpOkB; rw [hok]; rfl)
    have Hok := Lib.hid hok
    clear hok
    go_enter Tryd.func23, Tryd.ntmps23
    go_wp2_with fail
    refine (pagesOk_impl A _ c ps hf hn _ Hr.out).mono ?_
    rintro e w1 ⟨rfl, hb1⟩
    rw [Hok.out]
    go_wp2
    go_ret
    exact ⟨ret_bool Hf.out.symm, hb1⟩
  · have Hf := Lib.hid (show dpOkB ps = dirOkB (pgL ps) by unfold dpOkB; rw [hok]; rfl)
    have Hok := Lib.hid hok
    clear hok
    go_enter Tryd.func23, Tryd.ntmps23
    go_wp2_with fail
    refine (pagesOk_impl A _ c ps hf hn _ Hr.out).mono ?_
    rintro e w1 ⟨rfl, hb1⟩
    rw [Hok.out]
    go_wp2_with fail
    refine (pgList_impl A _ c ps hf hn _ (Hr.out.next hb1)).mono ?_
    rintro e w2 ⟨v2, rfl, hown, hb2⟩
    obtain ⟨A2, c2, rfl, _, _, hr2⟩ := own_vals hown
    clear hown
    go_wp2_with fail
    refine (dirOk_impl _ _ _ _ (dp_names sm) _ ((HT.out.bl hb1).bl hb2) (by omega) hr2).mono ?_
    rintro e w3 ⟨rfl, hb3⟩
    go_wp2
    go_ret
    exact ⟨ret_bool Hf.out.symm, belN (belN hb1 hb2) hb3⟩

set_option maxRecDepth 100000 in
set_option maxHeartbeats 2000000 in
theorem dpNext_impl (v : Value) (ps : List (List EntD)) (sm : szSS ps ≤ 1048576) (x y : Int) (w : World) (hT : Tab w) (h : IsSS w v ps) :
    Calls Tryd.prog 26 #[v, .int .i64 x, .int .i64 y] w fun e w' => EntPost (nxtP (pgL ps) x y) e ∧ Below w.heap.size w w' := by
  have HT := Lib.hid hT
  clear hT
  have hf := dp_flat sm
  have hn := dp_len sm
  have hp := dp_pgL sm
  have hA := h.next (belA (bel0 w) (.cells #[.int .i64 0, .int .i64 0, .string ⟨#[]⟩, .int .i64 0] 37))
  have HA := Lib.hid hA
  clear h hA
  rcases hok : dpOkB ps with _ | _
  · have Hf := Lib.hid (dp_no (x := x) (y := y) hok)
    have Hok := Lib.hid hok
    clear hok
    go_enter Tryd.func26, Tryd.ntmps26
    go_wp2_with fail
    refine (dpOk_impl v ps sm _ (HT.out.al _) HA.out).mono ?_
    rintro e w1 ⟨rfl, hb1⟩
    rw [Hok.out]
    have hB := (Blk.new' w 37 #[.int .i64 0, .int .i64 0, .string ⟨#[]⟩, .int .i64 0] w.heap.size).below hb1 (by simp)
    have c0 := hB.get 0 rfl
    have c1 := hB.get 1 rfl
    have c2 := hB.get 2 rfl
    have c3 := hB.get 3 rfl
    have f0 := hB.frozen 0
    have f1 := hB.frozen 1
    have f2 := hB.frozen 2
    have f3 := hB.frozen 3
    have hlt := hB.lt
    have b1 := belN (belA (bel0 w) _) hb1
    go_wp2
    refine bodyPost_ret (v := .tuple #[.agg #[.int .i64 0, .int .i64 0, .string ⟨#[]⟩, .int .i64 0], .bool false]) (by simp [results, Tryd.results26, go_sem, c0, c1, c2, c3]) rfl ⟨entPost_end Hf.out rfl, ?_⟩
    repeat (first | exact b1 | apply Below.drew | refine belA ?_ _ | refine belC ?_ _ _ (by omega) _)
  · have Hok := Lib.hid hok
    clear hok
    go_enter Tryd.func26, Tryd.ntmps26
    go_wp2_with fail
    refine (dpOk_impl v ps sm _ (HT.out.al _) HA.out).mono ?_
    rintro e w1 ⟨rfl, hb1⟩
    rw [Hok.out]
    have hA1 := HA.out.next hb1
    obtain ⟨A, c, rfl, hr⟩ := hA1
    have Hr := Lib.hid hr
    have hB := (Blk.new' w 37 #[.int .i64 0, .int .i64 0, .string ⟨#[]⟩, .int .i64 0] w.heap.size).below hb1 (by simp)
    have b1 := belN (belA (bel0 w) _) hb1
    clear hr
    go_wp2_with fail
    refine (pgList_impl A _ c ps hf hn _ Hr.out).mono ?_
    rintro e w2 ⟨v2, rfl, hown, hb2⟩
    obtain ⟨A2, c2, rfl, _, _, hr2⟩ := own_vals hown
    have b2 := belN b1 hb2
    clear hown
    go_wp2_with fail
    refine (next_impl A2 _ c2 _ x y (dp_names sm) _ (((HT.out.al _).bl hb1).bl hb2) (by omega) hr2).mono ?_
    rintro e w3 ⟨⟨E, fb, hE, rfl⟩, hb3⟩
    have HE := Lib.hid hE
    have b3 := belN b2 hb3
    have hB3 := (hB.below hb2 hB.lt).below hb3 (hB.below hb2 hB.lt).lt
    have c0 := hB3.get 0 rfl
    have c1 := hB3.get 1 rfl
    have c2 := hB3.get 2 rfl
    have c3 := hB3.get 3 rfl
    have f0 := hB3.frozen 0
    have f1 := hB3.frozen 1
    have f2 := hB3.frozen 2
    have f3 := hB3.frozen 3
    have hlt := hB3.lt
    clear hE hr2
    have hF := (((hB3.put 0 (.int .i64 E.h) #[.int .i64 E.h, .int .i64 0, .string ⟨#[]⟩, .int .i64 0] rfl).put 1 (.int .i64 E.i) #[.int .i64 E.h, .int .i64 E.i, .string ⟨#[]⟩, .int .i64 0] rfl).put 2 (.string E.s) #[.int .i64 E.h, .int .i64 E.i, .string E.s, .int .i64 0] rfl).put 3 (.int .i64 E.d) #[.int .i64 E.h, .int .i64 E.i, .string E.s, .int .i64 E.d] rfl
    have r0 := Lib.hid (hF.get (x := .int .i64 E.h) 0 rfl)
    have r1 := Lib.hid (hF.get (x := .int .i64 E.i) 1 rfl)
    have r2 := Lib.hid (hF.get (x := .string E.s) 2 rfl)
    have r3 := Lib.hid (hF.get (x := .int .i64 E.d) 3 rfl)
    go_wp2
    refine bodyPost_ret (v := .tuple #[.agg #[.int .i64 E.h, .int .i64 E.i, .string E.s, .int .i64 E.d], .bool fb]) (by simp [results, Tryd.results26, go_sem, r0.out, r1.out, r2.out, r3.out]) rfl ⟨entPost_end HE.out rfl, ?_⟩
    repeat (first | exact b3 | apply Below.drew | refine belA ?_ _ | refine belC ?_ _ _ (by omega) _)

set_option maxRecDepth 100000 in
set_option maxHeartbeats 2000000 in
theorem dpOk_spec (v : Value) (ps : List (List EntD)) (sm : szSS ps ≤ 1048576) (w : World) (h : IsSS w v ps) :
    Calls Tryd.prog 21 #[v] w fun e w' => e = .returned (.bool (dpOkB ps)) ∧ Below w.heap.size w w' := by
  have hf := dp_flat sm
  have hn := dp_len sm
  have hp := dp_pgL sm
  obtain ⟨A, c, rfl, hr⟩ := h
  have Hr := Lib.hid hr
  clear hr
  rcases hok : okPB ps with _ | _
  · have Hf := Lib.hid (show dpOkB ps = false by unfold dpOkB; rw [hok]; rfl)
    have Hok := Lib.hid hok
    clear hok
    go_enter Tryd.func21, Tryd.ntmps21
    go_wp2_with fail
    refine (pagesOk_spec A _ c ps hf hn _ Hr.out).mono ?_
    rintro e w1 ⟨rfl, hb1⟩
    rw [Hok.out]
    go_wp2
    go_ret
    exact ⟨ret_bool Hf.out.symm, hb1⟩
  · have Hf := Lib.hid (show dpOkB ps = dirOkB (pgL ps) by unfold dpOkB; rw [hok]; rfl)
    have Hok := Lib.hid hok
    clear hok
    go_enter Tryd.func21, Tryd.ntmps21
    go_wp2_with fail
    refine (pagesOk_spec A _ c ps hf hn _ Hr.out).mono ?_
    rintro e w1 ⟨rfl, hb1⟩
    rw [Hok.out]
    go_wp2_with fail
    refine (pgList_spec A _ c ps hf hn _ (Hr.out.next hb1)).mono ?_
    rintro e w2 ⟨v2, rfl, hown, hb2⟩
    obtain ⟨A2, c2, rfl, _, _, hr2⟩ := own_vals hown
    clear hown
    go_wp2_with fail
    refine (dirOk_spec _ _ _ _ (dp_names sm) _ (by omega) hr2).mono ?_
    rintro e w3 ⟨rfl, hb3⟩
    go_wp2
    go_ret
    exact ⟨ret_bool Hf.out.symm, belN (belN hb1 hb2) hb3⟩

set_option maxRecDepth 100000 in
set_option maxHeartbeats 2000000 in
theorem dpNext_spec (v : Value) (ps : List (List EntD)) (sm : szSS ps ≤ 1048576) (x y : Int) (w : World) (h : IsSS w v ps) :
    Calls Tryd.prog 25 #[v, .int .i64 x, .int .i64 y] w fun e w' => EntPost (nxtP (pgL ps) x y) e ∧ Below w.heap.size w w' := by
  have hf := dp_flat sm
  have hn := dp_len sm
  have hp := dp_pgL sm
  have hA := h.next (belA (bel0 w) (.cells #[.int .i64 0, .int .i64 0, .string ⟨#[]⟩, .int .i64 0] 37))
  have HA := Lib.hid hA
  clear h hA
  rcases hok : dpOkB ps with _ | _
  · have Hf := Lib.hid (dp_no (x := x) (y := y) hok)
    have Hok := Lib.hid hok
    clear hok
    go_enter Tryd.func25, Tryd.ntmps25
    go_wp2_with fail
    refine (dpOk_spec v ps sm _ HA.out).mono ?_
    rintro e w1 ⟨rfl, hb1⟩
    rw [Hok.out]
    have hB := (Blk.new' w 37 #[.int .i64 0, .int .i64 0, .string ⟨#[]⟩, .int .i64 0] w.heap.size).below hb1 (by simp)
    have c0 := hB.get 0 rfl
    have c1 := hB.get 1 rfl
    have c2 := hB.get 2 rfl
    have c3 := hB.get 3 rfl
    have f0 := hB.frozen 0
    have f1 := hB.frozen 1
    have f2 := hB.frozen 2
    have f3 := hB.frozen 3
    have hlt := hB.lt
    have b1 := belN (belA (bel0 w) _) hb1
    go_wp2
    refine bodyPost_ret (v := .tuple #[.agg #[.int .i64 0, .int .i64 0, .string ⟨#[]⟩, .int .i64 0], .bool false]) (by simp [results, Tryd.results25, go_sem, c0, c1, c2, c3]) rfl ⟨entPost_end Hf.out rfl, ?_⟩
    repeat (first | exact b1 | apply Below.drew | refine belA ?_ _ | refine belC ?_ _ _ (by omega) _)
  · have Hok := Lib.hid hok
    clear hok
    go_enter Tryd.func25, Tryd.ntmps25
    go_wp2_with fail
    refine (dpOk_spec v ps sm _ HA.out).mono ?_
    rintro e w1 ⟨rfl, hb1⟩
    rw [Hok.out]
    have hA1 := HA.out.next hb1
    obtain ⟨A, c, rfl, hr⟩ := hA1
    have Hr := Lib.hid hr
    have hB := (Blk.new' w 37 #[.int .i64 0, .int .i64 0, .string ⟨#[]⟩, .int .i64 0] w.heap.size).below hb1 (by simp)
    have b1 := belN (belA (bel0 w) _) hb1
    clear hr
    go_wp2_with fail
    refine (pgList_spec A _ c ps hf hn _ Hr.out).mono ?_
    rintro e w2 ⟨v2, rfl, hown, hb2⟩
    obtain ⟨A2, c2, rfl, _, _, hr2⟩ := own_vals hown
    have b2 := belN b1 hb2
    clear hown
    go_wp2_with fail
    refine (next_spec A2 _ c2 _ x y (dp_names sm) _ (by omega) hr2).mono ?_
    rintro e w3 ⟨⟨E, fb, hE, rfl⟩, hb3⟩
    have HE := Lib.hid hE
    have b3 := belN b2 hb3
    have hB3 := (hB.below hb2 hB.lt).below hb3 (hB.below hb2 hB.lt).lt
    have c0 := hB3.get 0 rfl
    have c1 := hB3.get 1 rfl
    have c2 := hB3.get 2 rfl
    have c3 := hB3.get 3 rfl
    have f0 := hB3.frozen 0
    have f1 := hB3.frozen 1
    have f2 := hB3.frozen 2
    have f3 := hB3.frozen 3
    have hlt := hB3.lt
    clear hE hr2
    have hne : w.heap.size ≠ w3.heap.size := by omega
    have hne' : w3.heap.size ≠ w.heap.size := by omega
    have hF := ((((hB3.put 0 (.int .i64 E.h) #[.int .i64 E.h, .int .i64 0, .string ⟨#[]⟩, .int .i64 0] rfl).put 1 (.int .i64 E.i) #[.int .i64 E.h, .int .i64 E.i, .string ⟨#[]⟩, .int .i64 0] rfl).put 2 (.string E.s) #[.int .i64 E.h, .int .i64 E.i, .string E.s, .int .i64 0] rfl).put 3 (.int .i64 E.d) #[.int .i64 E.h, .int .i64 E.i, .string E.s, .int .i64 E.d] rfl).alloc (.cells #[.int .i64 E.h, .int .i64 E.i, .string E.s, .int .i64 E.d] 37)
    have r0 := Lib.hid (hF.get (x := .int .i64 E.h) 0 rfl)
    have r1 := Lib.hid (hF.get (x := .int .i64 E.i) 1 rfl)
    have r2 := Lib.hid (hF.get (x := .string E.s) 2 rfl)
    have r3 := Lib.hid (hF.get (x := .int .i64 E.d) 3 rfl)
    go_wp2
    refine bodyPost_ret (v := .tuple #[.agg #[.int .i64 E.h, .int .i64 E.i, .string E.s, .int .i64 E.d], .bool fb]) (by simp [results, Tryd.results25, go_sem, r0.out, r1.out, r2.out, r3.out]) rfl ⟨entPost_end HE.out rfl, ?_⟩
    repeat (first | exact b3 | apply Below.drew | refine belA ?_ _ | refine belC ?_ _ _ (by omega) _)

end Go.Proofs.YtijfjgenbdbafaaDoor
