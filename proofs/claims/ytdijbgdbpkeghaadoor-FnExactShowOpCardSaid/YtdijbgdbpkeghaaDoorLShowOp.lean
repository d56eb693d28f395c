/- The law of ShowOp: what the program's ShowOp gives is what the reference's gives. The table of known signs is held as the program's text lays it. -/
import Derived.Test.YtdijbgdbpkeghaaDoorOp2
import Derived.Test.YtdijbgdbpkeghaaDoorFrameD
namespace Go.Proofs.YtdijbgdbpkeghaaDoor
open Go Go.RowKit Go.ChangeShapes Go.WideShapes Go.ChangeAt Go.Joins
open Go.ChangeMaps (open_string)

set_option maxRecDepth 100000 in
set_option maxHeartbeats 1000000 in
theorem law_showOp (k : Int) (s : ByteArray) (i : Int) (hs : s.size ≤ 9223372036854775807) (w : World) (hT : Tab w) :
    Calls Tryd.prog 4 #[.agg #[.int .i64 k, .string s, .int .i64 i]] w fun e w' => e = .returned (.bool true) ∧ Below w.heap.size w w' := by
  have HT := Lib.hid hT
  clear hT
  by_cases hz : szM 1048576 s.size < 0
  · go_enter Tryd.func4, Tryd.ntmps4
    go_wp2_with (go_at_call 7; refine (szOp_any _ _ _ _ (by omega) (by omega) hs _).mono ?_; rintro e w1 ⟨rfl, hb1⟩)
    go_ret
    exact ⟨rfl, belN (belA (bel0 w) _) hb1⟩
  · have hle := szM_ok hz
    go_enter Tryd.func4, Tryd.ntmps4
    go_wp2_with fail
    refine (szOp_any _ _ _ _ (by omega) (by omega) hs _).mono ?_
    rintro e w1 ⟨rfl, hb1⟩
    have k10 := keep1 hb1 (p := ⟨w.heap.size, 0, none⟩) (x := .int .i64 k) (by simp [go_sem])
    have k11 := keep1 hb1 (p := ⟨w.heap.size, 1, none⟩) (x := .string s) (by simp [go_sem])
    have k12 := keep1 hb1 (p := ⟨w.heap.size, 2, none⟩) (x := .int .i64 i) (by simp [go_sem])
    go_wp2_with fail
    refine (toOp_any _ _ _ _).mono ?_
    rintro e w2 ⟨rfl, hb2⟩
    have k20 := keep1 hb2 k10
    have k21 := keep1 hb2 k11
    have k22 := keep1 hb2 k12
    clear k10 k11 k12
    go_wp2_with fail
    refine (showOp_spec _ _ _ (by omega) _).mono ?_
    rintro e w3 ⟨rfl, hb3⟩
    have k30 := keep1 hb3 k20
    have k31 := keep1 hb3 k21
    have k32 := keep1 hb3 k22
    clear k20 k21 k22
    go_wp2_with fail
    refine (toOp_any _ _ _ _).mono ?_
    rintro e w4 ⟨rfl, hb4⟩
    clear k30 k31 k32
    go_wp2_with fail
    refine (showOp_impl _ _ _ (by omega) _ (((((HT.out.al _).bl hb1).bl hb2).bl hb3).bl hb4)).mono ?_
    rintro e w5 ⟨rfl, hb5⟩
    go_wp2
    go_ret
    exact ⟨rfl, belN (belN (belN (belN (belN (belA (bel0 w) _) hb1) hb2) hb3) hb4) hb5⟩

theorem fnExactShowOp_contract (H : Type) (enc : TypeId × Value → H) (W : World) (base : Nat) (args : Array Value) (ds gs : List (DataW H)) (before : List MemPlace)
    (hval : ∀ (j : Nat) t v, Tryd.f4.params[j]? = some t → args[j]? = some v → Value.okWide Tryd.prog W .any base t v)
    (hW : DataW.Whole enc Tryd.prog Tryd.f4.params.toList Rows.fnExactShowOpSpec.vars false W args.toList ds gs before) (hL : laidMetH Tryd.prog Rows.fnExactShowOpRow.laid W) :
    Calls Tryd.prog 4 args W fun e W' => ∃ v, e = .returned v ∧ Rows.fnExactShowOpSpec.post enc Tryd.prog Tryd.f4 false true false false W args v W' := by
  have hW' := hW
  obtain ⟨p, q, hA0, hV, rfl, hfz, hnd⟩ := hW
  have hA : DataW.TrodAll enc Tryd.prog W 0 (fun _ => true) true Tryd.f4.params.toList args.toList ds p := hA0
  rw [Tryd.params4] at hA hval
  have hT := tab_of hL
  obtain ⟨_, _, _, g1, _, _, rfl, _⟩ := trodVars_one hV
  obtain ⟨v0, d0, rfl, rfl, h0⟩ := trodAll_one hA
  obtain ⟨c0, c1, c2, y0, y1, y2, m, rfl, rfl, rfl, hy0, hy1, hy2⟩ := open_agg3 Tryd.underlying23 (by kernel_rfl) Tryd.cells23 (hval 0 23 v0 rfl rfl) h0
  obtain ⟨k, e0, rfl, wk⟩ := DataW.trod_int Tryd.underlying3 hy0
  obtain ⟨s, e1, rfl, ws⟩ := DataW.trod_string Tryd.underlying9 hy1
  obtain ⟨i, e2, rfl, wi⟩ := DataW.trod_int Tryd.underlying3 hy2
  simp at e0 e1 e2
  subst e0 e1 e2
  clear hA0
  refine (law_showOp k s i (Nat.le_trans ws (by unfold maxLen; omega)) W hT).mono fun e W' ⟨he, hw⟩ => ?_
  subst he
  exact ⟨_, rfl, law_postD Tryd.laidOut (by kernel_rfl) rfl Tryd.underlying4 (Tryd.varsOk hT) rfl hW' hw⟩

theorem fnExactShowOp_laid_met (os : Os) : laidMet Tryd.prog Rows.fnExactShowOpRow.laid ((laidWorld os #[.agg #[.int .i64 0, .string ByteArray.empty, .int .i64 0]]).forCall (fun _ _ => 0) ⟨#[], #[.agg #[.int .i64 0, .string ByteArray.empty, .int .i64 0]], []⟩).memory :=
  laidMet_of_run' 8 (by kernel_rfl) (by kernel_rfl)
theorem fnExactShowOp_reads (os : Os) {H : Type} (enc : TypeId × Value → H) : DataW.whole enc Tryd.prog ((laidWorld os #[.agg #[.int .i64 0, .string ByteArray.empty, .int .i64 0]]).forCall (fun _ _ => 0) ⟨#[], #[.agg #[.int .i64 0, .string ByteArray.empty, .int .i64 0]], []⟩).memory Tryd.f4.params.toList Rows.fnExactShowOpSpec.vars false (#[.agg #[.int .i64 0, .string ByteArray.empty, .int .i64 0]] : Array Value).toList 8 = some ([.agg [.lit (.int .i64 0), .lit (.string []), .lit (.int .i64 0)]], [Rows.laid_loop_example_g00773_impl_knownParts], [] ++ MemPlace.row ⟨0, 0, none⟩ 54) := by kernel_rfl

set_option maxRecDepth 100000 in
theorem fnExactShowOp_lifted (os : Os) (started : os.Started) (H : Type) (enc : TypeId × Value → H) (F : Stop.Interp) :
    ReturnsInHanded {} Tryd.checked os 4 .any ((OpenSpec.ofChange Rows.fnExactShowOpSpec).preRow enc Tryd.prog Tryd.f4 Rows.fnExactShowOpRow.domain false Rows.fnExactShowOpRow.laid) (((OpenSpec.ofChange Rows.fnExactShowOpSpec).at F).post enc Tryd.prog Tryd.f4 false true false false) := by
  refine returnsInHanded_of_row (C := Tryd.checked) (s := OpenSpec.ofChange Rows.fnExactShowOpSpec) Tryd.own started (by kernel_rfl) Tryd.func4
    (witness_row_at (enc := enc) (C := Tryd.checked) false (laidWorld os #[.agg #[.int .i64 0, .string ByteArray.empty, .int .i64 0]]) #[.agg #[.int .i64 0, .string ByteArray.empty, .int .i64 0]] rfl (by kernel_rfl) (by kernel_rfl) (by kernel_rfl)
      (OpenSpec.preRow_of_cond 8 (fnExactShowOp_reads os enc) (by kernel_rfl) (fun k hk => by cases hk) (by kernel_rfl) (fnExactShowOp_laid_met os))) ?_
  intro W base args ds gs before hval hW _ _ _ hL _ _
  exact fnExactShowOp_contract H enc W base args ds gs before hval hW hL

theorem fnExactShowOp_said : Rows.FnExactShowOpSaid :=
  OpenClaim.holds_of_cond 4 Tryd.f4 rfl rfl rfl rfl rfl rfl rfl ⟨rfl, rfl, rfl, rfl, rfl⟩ rfl rfl rfl rfl rfl (by kernel_rfl) Tryd.func4 (by kernel_rfl)
    (of_decide_eq_true (by kernel_rfl)) (by unfold Func.isWrapper; rw [if_neg (of_decide_eq_false (by kernel_rfl))]; exact ⟨rfl, rfl⟩)
    (fun os started H enc _ F => by rw [OpenClaim.pre_eq_preRow]; exact fnExactShowOp_lifted os started H enc F)

theorem fnExactShowOp_plain (f : FuncId) (fn : Func) (hf : Tryd.pinned.checked.prog.funcNamed "loop.example/g00773/laws.FnExactShowOp" = some f) (hfn : Tryd.pinned.checked.prog.funcs[f]? = some fn) :
    false = Tryd.pinned.checked.prog.looks [] ∧ ∀ (j : Nat) t, fn.params[j]? = some t → Tryd.pinned.checked.prog.wantsStandIn t = false := by
  obtain rfl : f = 4 := Option.some.inj ((show Tryd.prog.funcNamed "loop.example/g00773/laws.FnExactShowOp" = some 4 by kernel_rfl).symm.trans hf) |>.symm
  obtain rfl : fn = Tryd.f4 := (Option.some.inj (Tryd.func4.symm.trans hfn)).symm
  refine ⟨by kernel_rfl, fun j t ht => ?_⟩
  rw [Tryd.params4] at ht
  obtain rfl : t = 23 := by simpa using Array.mem_of_getElem? ht
  exact (show Tryd.prog.wantsStandIn 23 = false by kernel_rfl)

theorem fnExactShowOp_card : Rows.FnExactShowOpCardSaid :=
  Claim7.holds_tied_plain_at .later [] _ _ _ _ fnExactShowOp_said (fun _ h => by cases h) (by kernel_rfl) (fun _ h => by cases h) fnExactShowOp_row_tie rfl ⟨rfl, rfl⟩ (by kernel_rfl) rfl fnExactShowOp_plain (by kernel_rfl)

end Go.Proofs.YtdijbgdbpkeghaaDoor
