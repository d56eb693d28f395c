/- The law of ReadRec: what the program's ReadRec gives is what the reference's gives. -/
import Derived.Test.YtdijbgdbpkeghaaRec2
import Derived.Test.YtdijbgdbpkeghaaFrame
namespace Go.Proofs.Ytdijbgdbpkeghaa
open Go Go.RowKit Go.ChangeShapes Go.WideShapes Go.ChangeAt Go.Joins
open Go.ChangeMaps (open_string)

set_option maxHeartbeats 1000000 in
theorem eqRec_self (q : Int) (t : ByteArray) (w : World) :
    Calls Try.prog 25 #[.agg #[.int .i64 q, .string t], .agg #[.int .i64 q, .string t]] w fun e w' => e = .returned (.bool true) ∧ Below w.heap.size w w' := by
  go_enter Try.func25, Try.ntmps25
  go_wp2
  go_ret
  exact ⟨rfl, belA (belA (bel0 w) _) _⟩

set_option maxRecDepth 100000 in
set_option maxHeartbeats 1000000 in
theorem law_readRec (s : ByteArray) (hs : s.size ≤ 9223372036854775807) (w : World) :
    Calls Try.prog 6 #[.string s] w fun e w' => e = .returned (.bool true) ∧ Below w.heap.size w w' := by
  by_cases hbig : s.size ≤ 1048576
  · clear hs
    go_enter Try.func6, Try.ntmps6
    go_wp2_with fail
    refine (readRec_spec s (by omega) _).mono ?_
    rintro e w1 ⟨rfl, hb1⟩
    go_wp2_with fail
    refine (readRec_impl s (by omega) _).mono ?_
    rintro e w2 ⟨rfl, hb2⟩
    have hB := (Blk.new' w1 26 #[.int .i64 (recP s).1, .string (recP s).2.1] w1.heap.size).below hb2 (by simp)
    have c0 := hB.c0
    have c1 := hB.c1
    have hlt := hB.lt
    go_wp2_with fail
    refine (eqRec_self _ _ _).mono ?_
    rintro e w3 ⟨rfl, hb3⟩
    go_wp2
    go_ret
    exact ⟨rfl, belN (belA (belN (belA (belN (bel0 w) hb1) _) hb2) _) hb3⟩
  · go_enter Try.func6, Try.ntmps6
    go_wp2
    go_ret
    exact ⟨rfl, bel0 w⟩

set_option maxRecDepth 100000 in
theorem fnExactReadRec_lifted (os : Os) (started : os.Started) (H : Type) (enc : TypeId × Value → H) :
    ReturnsInHanded {} Try.checked os 6 .any (Rows.fnExactReadRecSpec.pre6 enc Try.prog Try.f6 Rows.fnExactReadRecRow.domain false) (Rows.fnExactReadRecSpec.post enc Try.prog Try.f6 false true false false) := by
  refine returnsInHanded_of_change (C := Try.checked) Try.own started (by kernel_rfl) Try.func6
    (ChangeSpec.witness6 (enc := enc) (C := Try.checked) false ⟨#[], #[.string ByteArray.empty], []⟩ 8 (by kernel_rfl) (by kernel_rfl) (by kernel_rfl) (by kernel_rfl)) ?_
  intro W base args ds gs before hval0 hW _ _
  have hval : ∀ (j : Nat) t v, Try.f6.params[j]? = some t → args[j]? = some v → Value.okWide Try.prog W .any base t v := hval0
  have hW' := hW
  obtain ⟨p, q, hA0, hV, rfl, hfz, hnd⟩ := hW
  have hA : DataW.TrodAll enc Try.prog W 0 (fun _ => true) true Try.f6.params.toList args.toList ds p := hA0
  rw [Try.params6] at hA hval
  obtain ⟨v0, d0, rfl, rfl, h0⟩ := trodAll_one hA
  obtain ⟨rfl, rfl⟩ := trodVars_none hV
  obtain ⟨s, rfl, rfl, rfl, ws⟩ := open_string Try.underlying9 (hval 0 9 v0 rfl rfl) h0
  clear hA0 hval0
  refine (law_readRec s (Nat.le_trans ws (by unfold maxLen; omega)) W).mono fun e W' ⟨he, hw⟩ => ?_
  subst he
  exact ⟨_, rfl, law_post Try.laidOut (by kernel_rfl) rfl Try.underlying4 rfl rfl hW' hw⟩

theorem fnExactReadRec_holds : Rows.FnExactReadRecSaid :=
  OpenClaim.holds_of_wide 6 Try.f6 rfl rfl rfl rfl rfl rfl rfl ⟨rfl, rfl, rfl, rfl, rfl⟩ rfl rfl rfl rfl rfl (by kernel_rfl) Try.func6 (by kernel_rfl)
    (of_decide_eq_true (by kernel_rfl)) (by unfold Func.isWrapper; rw [if_neg (of_decide_eq_false (by kernel_rfl))]; exact ⟨rfl, rfl⟩)
    (fun os started H enc _ => fnExactReadRec_lifted os started H enc)
end Go.Proofs.Ytdijbgdbpkeghaa
