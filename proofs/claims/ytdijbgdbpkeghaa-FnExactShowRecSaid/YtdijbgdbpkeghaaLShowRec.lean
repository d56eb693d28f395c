/- The law of ShowRec: what the program's ShowRec gives is what the reference's gives. -/
import Derived.Test.YtdijbgdbpkeghaaRec
import Derived.Test.YtdijbgdbpkeghaaFrame
namespace Go.Proofs.Ytdijbgdbpkeghaa
open Go Go.RowKit Go.ChangeShapes Go.WideShapes Go.ChangeAt Go.Joins

/-- What is left of a measure. -/
def szN (left : Int) (n : Nat) : Int := if left - n < 0 then -1 else left - n
set_option maxHeartbeats 1000000 in
theorem szRec_any (q : Int) (t : ByteArray) (left : Int) (h0 : 0 ≤ left) (h1 : left ≤ 1048576) (ht : t.size ≤ 9223372036854775807) (w : World) :
    Calls Try.prog 11 #[.agg #[.int .i64 q, .string t], .int .i64 left] w fun e w' => e = .returned (.int .i64 (szN left t.size)) ∧ Below w.heap.size w w' := by
  unfold szN
  by_cases h : left - t.size < 0
  all_goals
    go_enter Try.func11, Try.ntmps11
    go_wp2
    go_ret
    exact ⟨by simp, belA (bel0 w) _⟩

set_option maxHeartbeats 1000000 in
theorem toRec_any (q : Int) (t : ByteArray) (w : World) :
    Calls Try.prog 13 #[.agg #[.int .i64 q, .string t]] w fun e w' => e = .returned (.agg #[.int .i64 q, .string t]) ∧ Below w.heap.size w w' := by
  go_enter Try.func13, Try.ntmps13
  go_wp2
  refine bodyPost_ret (v := .agg #[.int .i64 q, .string t]) (by simp [results, Try.results13, go_sem]) rfl ⟨rfl, belA (belA (belA (bel0 w) _) _) _⟩

set_option maxHeartbeats 1000000 in
theorem law_showRec (q : Int) (t : ByteArray) (ht : t.size ≤ 9223372036854775807) (w : World) :
    Calls Try.prog 3 #[.agg #[.int .i64 q, .string t]] w fun e w' => e = .returned (.bool true) ∧ Below w.heap.size w w' := by
  by_cases hs : szN 1048576 t.size < 0
  · go_enter Try.func3, Try.ntmps3
    go_wp2_with (first
      | (go_at_call 11; refine (szRec_any _ _ _ (by omega) (by omega) ht _).mono ?_; rintro e w1 ⟨rfl, hb1⟩))
    go_ret
    exact ⟨rfl, belN (belA (bel0 w) _) hb1⟩
  · go_enter Try.func3, Try.ntmps3
    go_wp2_with fail
    refine (szRec_any _ _ _ (by omega) (by omega) ht _).mono ?_
    rintro e w1 ⟨rfl, hb1⟩
    have k0 := keep1 hb1 (p := ⟨w.heap.size, 0, none⟩) (x := .int .i64 q) (by simp [go_sem])
    have k1 := keep1 hb1 (p := ⟨w.heap.size, 1, none⟩) (x := .string t) (by simp [go_sem])
    go_wp2_with fail
    refine (toRec_any _ _ _).mono ?_
    rintro e w2 ⟨rfl, hb2⟩
    have k20 := keep1 hb2 k0
    have k21 := keep1 hb2 k1
    go_wp2_with fail
    refine (showRec_spec _ _ _ ht).mono ?_
    rintro e w3 ⟨rfl, hb3⟩
    have k30 := keep1 hb3 k20
    have k31 := keep1 hb3 k21
    go_wp2_with fail
    refine (toRec_any _ _ _).mono ?_
    rintro e w4 ⟨rfl, hb4⟩
    go_wp2_with fail
    refine (showRec_impl _ _ _ ht).mono ?_
    rintro e w5 ⟨rfl, hb5⟩
    go_wp2
    go_ret
    exact ⟨rfl, belN (belN (belN (belN (belN (belA (bel0 w) _) hb1) hb2) hb3) hb4) hb5⟩

set_option maxRecDepth 100000 in
theorem showRec_lifted (os : Os) (started : os.Started) (H : Type) (enc : TypeId × Value → H) :
    ReturnsInHanded {} Try.checked os 3 .any (Rows.fnExactShowRecSpec.pre6 enc Try.prog Try.f3 Rows.fnExactShowRecRow.domain false) (Rows.fnExactShowRecSpec.post enc Try.prog Try.f3 false true false false) := by
  refine returnsInHanded_of_change (C := Try.checked) Try.own started (by kernel_rfl) Try.func3
    (ChangeSpec.witness6 (enc := enc) (C := Try.checked) false ⟨#[], #[.agg #[.int .i64 0, .string ByteArray.empty]], []⟩ 8 (by kernel_rfl) (by kernel_rfl) (by kernel_rfl) (by kernel_rfl)) ?_
  intro W base args ds gs before hval0 hW _ _
  have hval : ∀ (j : Nat) t v, Try.f3.params[j]? = some t → args[j]? = some v → Value.okWide Try.prog W .any base t v := hval0
  have hW' := hW
  obtain ⟨p, q, hA0, hV, rfl, hfz, hnd⟩ := hW
  have hA : DataW.TrodAll enc Try.prog W 0 (fun _ => true) true Try.f3.params.toList args.toList ds p := hA0
  rw [Try.params3] at hA hval
  obtain ⟨v0, d0, rfl, rfl, h0⟩ := trodAll_one hA
  obtain ⟨rfl, rfl⟩ := trodVars_none hV
  have h0' := h0
  obtain ⟨c0, c1, y0, y1, m, rfl, rfl, rfl, hy0, hy1⟩ := open_agg2 Try.underlying23 (by kernel_rfl) Try.cells23 (hval 0 23 v0 rfl rfl) h0
  obtain ⟨a, e0, rfl, wa⟩ := DataW.trod_int Try.underlying3 hy0
  obtain ⟨b, e1, rfl, wb⟩ := DataW.trod_string Try.underlying9 hy1
  simp at e0 e1
  subst e0 e1
  clear hA0 hval0
  refine (law_showRec a b ?_ W).mono fun e W' ⟨he, hw⟩ => ?_
  · exact Nat.le_trans wb (by unfold maxLen; omega)
  subst he
  exact ⟨_, rfl, law_post Try.laidOut (by kernel_rfl) rfl Try.underlying4 rfl rfl hW' hw⟩

theorem showRec_holds : Rows.FnExactShowRecSaid :=
  OpenClaim.holds_of_wide 3 Try.f3 rfl rfl rfl rfl rfl rfl rfl ⟨rfl, rfl, rfl, rfl, rfl⟩ rfl rfl rfl rfl rfl (by kernel_rfl) Try.func3 (by kernel_rfl)
    (of_decide_eq_true (by kernel_rfl)) (by unfold Func.isWrapper; rw [if_neg (of_decide_eq_false (by kernel_rfl))]; exact ⟨rfl, rfl⟩)
    (fun os started H enc _ => showRec_lifted os started H enc)
end Go.Proofs.Ytdijbgdbpkeghaa
