/- The law of ShowHome: what the program's ShowHome gives is what the reference's gives. The table of known signs is held as the program's text lays it. -/
import Derived.Test.YtijfjgenbdbafaaDoorHome
import Derived.Test.YtijfjgenbdbafaaDoorFrameIs
import Derived.Test.YtijfjgenbdbafaaDoorFrameD
namespace Go.Proofs.YtijfjgenbdbafaaDoor
open Go Go.RowKit Go.ChangeShapes Go.WideShapes Go.ChangeAt Go.Joins
open Go.ChangeMaps (open_string)

set_option maxRecDepth 100000 in
set_option maxHeartbeats 4000000 in
theorem law_fnExactShowHome (q : Int) (vd : Value) (d : List EntD) (hzd : (∀ e ∈ d, e.s.size ≤ 9223372036854775807)) (hnd : d.length ≤ 9223372036854775807) (w : World) (hT : Tab w) (hd : IsS w vd d) :
    Calls Tryd.prog 3 #[.int .i64 q, vd] w fun e w' => e = .returned (.bool true) ∧ Below w.heap.size w w' := by
  have HT0 := Lib.hid hT
  clear hT
  have HAd0 := Lib.hid hd
  have Hzd := Lib.hid hzd
  clear hd hzd
  go_enter Tryd.func3, Tryd.ntmps3
  go_wp2_with fail
  refine (szS_is vd d Hzd.out hnd 1048576 (by omega) (by omega) _ HAd0.out).mono ?_
  rintro e w1 ⟨rd, rfl, hrd, hb1⟩
  have B1 := hb1
  have HT1 := Lib.hid (HT0.out.bl hb1)
  clear HT0
  have HAd1 := Lib.hid (HAd0.out.next hb1)
  clear HAd0
  by_cases negd : rd < 0
  · go_wp2
    go_ret
    exact ⟨rfl, B1⟩
  have smd : szS d ≤ 1048576 := by omega
  clear hrd hnd Hzd
  go_wp2_with fail
  refine (toS_is vd d smd _ HAd1.out).mono ?_
  rintro e w2 ⟨yd, rfl, fryd, hb2⟩
  have B2 := belN B1 hb2
  have HT2 := Lib.hid (HT1.out.bl hb2)
  clear HT1
  have HAd2 := Lib.hid (HAd1.out.next hb2)
  clear HAd1
  have Hyd2 := Lib.hid fryd
  clear fryd
  go_wp2_with fail
  refine (showHome_spec q yd d smd _  Hyd2.out).mono ?_
  rintro e w3 ⟨rfl, hb3⟩
  have B3 := belN B2 hb3
  have HT3 := Lib.hid (HT2.out.bl hb3)
  clear HT2
  have HAd3 := Lib.hid (HAd2.out.next hb3)
  clear HAd2
  have Hyd3 := Lib.hid (Hyd2.out.next hb3)
  clear Hyd2
  clear Hyd3
  go_wp2_with fail
  refine (toS_is vd d smd _ HAd3.out).mono ?_
  rintro e w4 ⟨xd, rfl, frxd, hb4⟩
  have B4 := belN B3 hb4
  have HT4 := Lib.hid (HT3.out.bl hb4)
  clear HT3
  have HAd4 := Lib.hid (HAd3.out.next hb4)
  clear HAd3
  have Hxd4 := Lib.hid frxd
  clear frxd
  go_wp2_with fail
  refine (showHome_impl q xd d smd _ HT4.out Hxd4.out).mono ?_
  rintro e w5 ⟨rfl, hb5⟩
  have B5 := belN B4 hb5
  have HT5 := Lib.hid (HT4.out.bl hb5)
  clear HT4
  have HAd5 := Lib.hid (HAd4.out.next hb5)
  clear HAd4
  have Hxd5 := Lib.hid (Hxd4.out.next hb5)
  clear Hxd4
  go_wp2_with fail
  refine (toS_is vd d smd _ HAd5.out).mono ?_
  rintro e w6 ⟨zd, rfl, frzd, hb6⟩
  have B6 := belN B5 hb6
  have HT6 := Lib.hid (HT5.out.bl hb6)
  clear HT5
  have HAd6 := Lib.hid (HAd5.out.next hb6)
  clear HAd5
  have Hxd6 := Lib.hid (Hxd5.out.next hb6)
  clear Hxd5
  have Hzd := Lib.hid frzd
  clear frzd
  go_wp2_with fail
  refine (eqS_is xd zd d smd _ Hxd6.out Hzd.out).mono ?_
  rintro e w7 ⟨rfl, hb7⟩
  have B7 := belN B6 hb7
  have HT7 := Lib.hid (HT6.out.bl hb7)
  clear HT6
  have HAd7 := Lib.hid (HAd6.out.next hb7)
  clear HAd6
  have Hxd7 := Lib.hid (Hxd6.out.next hb7)
  clear Hxd6
  clear Hzd
  go_wp2
  go_ret
  exact ⟨rfl, B7⟩

set_option maxRecDepth 100000 in
theorem fnExactShowHome_contract (H : Type) (enc : TypeId × Value → H) (W : World) (base : Nat) (args : Array Value) (ds gs : List (DataW H)) (before : List MemPlace)
    (hval : ∀ (j : Nat) t v, Tryd.f3.params[j]? = some t → args[j]? = some v → Value.okWide Tryd.prog W .any base t v)
    (hW : DataW.Whole enc Tryd.prog Tryd.f3.params.toList Rows.fnExactShowHomeSpec.vars false W args.toList ds gs before) (hL : laidMetH Tryd.prog Rows.fnExactShowHomeRow.laid W) :
    Calls Tryd.prog 3 args W fun e W' => ∃ v, e = .returned v ∧ Rows.fnExactShowHomeSpec.post enc Tryd.prog Tryd.f3 false true false false W args v W' := by
  have hW' := hW
  obtain ⟨p, q, hA0, hV, rfl, hfz, hnd⟩ := hW
  have hA : DataW.TrodAll enc Tryd.prog W 0 (fun _ => true) true Tryd.f3.params.toList args.toList ds p := hA0
  rw [Tryd.params3] at hA hval
  have hT := tab_of hL
  obtain ⟨_, _, _, g1, _, _, rfl, _⟩ := trodVars_one hV
  obtain ⟨v0, v1, d0, d1, p0, p1, rfl, rfl, rfl, h0, h1⟩ := trodAll_two hA
  obtain ⟨q, rfl, rfl, rfl, wq⟩ := open_int Tryd.underlying3 (hval 0 3 v0 rfl rfl) h0
  obtain ⟨d, hzd, hnd, hId⟩ := open_rows_is (hval 1 22 v1 rfl rfl) h1
  clear hA0
  refine (law_fnExactShowHome q _ d hzd hnd W hT hId).mono fun e W' ⟨he, hw⟩ => ?_
  subst he
  exact ⟨_, rfl, law_postD Tryd.laidOut (by kernel_rfl) rfl Tryd.underlying4 (Tryd.varsOk hT) rfl hW' hw⟩

theorem fnExactShowHome_laid_met (os : Os) : laidMet Tryd.prog Rows.fnExactShowHomeRow.laid ((laidWorld os #[.int .i64 0, .slice none 0 0]).forCall (fun _ _ => 0) ⟨#[], #[.int .i64 0, .slice none 0 0], []⟩).memory :=
  laidMet_of_run' 8 (by kernel_rfl) (by kernel_rfl)
theorem fnExactShowHome_reads (os : Os) {H : Type} (enc : TypeId × Value → H) : DataW.whole enc Tryd.prog ((laidWorld os #[.int .i64 0, .slice none 0 0]).forCall (fun _ _ => 0) ⟨#[], #[.int .i64 0, .slice none 0 0], []⟩).memory Tryd.f3.params.toList Rows.fnExactShowHomeSpec.vars false (#[.int .i64 0, .slice none 0 0] : Array Value).toList 8 = some ([.lit (.int .i64 0), .nil], [Rows.laid_loop_example_g00773_impl_knownParts], [] ++ MemPlace.row ⟨0, 0, none⟩ 54) := by kernel_rfl

set_option maxRecDepth 100000 in
theorem fnExactShowHome_lifted (os : Os) (started : os.Started) (H : Type) (enc : TypeId × Value → H) (F : Stop.Interp) :
    ReturnsInHanded {} Tryd.checked os 3 .any ((OpenSpec.ofChange Rows.fnExactShowHomeSpec).preRow enc Tryd.prog Tryd.f3 Rows.fnExactShowHomeRow.domain false Rows.fnExactShowHomeRow.laid) (((OpenSpec.ofChange Rows.fnExactShowHomeSpec).at F).post enc Tryd.prog Tryd.f3 false true false false) := by
  refine returnsInHanded_of_row (C := Tryd.checked) (s := OpenSpec.ofChange Rows.fnExactShowHomeSpec) Tryd.own started (by kernel_rfl) Tryd.func3
    (witness_row_at (enc := enc) (C := Tryd.checked) false (laidWorld os #[.int .i64 0, .slice none 0 0]) #[.int .i64 0, .slice none 0 0] rfl (by kernel_rfl) (by kernel_rfl) (by kernel_rfl)
      (OpenSpec.preRow_of_cond 8 (fnExactShowHome_reads os enc) (by kernel_rfl) (fun k hk => by cases hk) (by kernel_rfl) (fnExactShowHome_laid_met os))) ?_
  intro W base args ds gs before hval hW _ _ _ hL _ _
  exact fnExactShowHome_contract H enc W base args ds gs before hval hW hL

theorem fnExactShowHome_said : Rows.FnExactShowHomeSaid :=
  OpenClaim.holds_of_cond 3 Tryd.f3 rfl rfl rfl rfl rfl rfl rfl ⟨rfl, rfl, rfl, rfl, rfl⟩ rfl rfl rfl rfl rfl (by kernel_rfl) Tryd.func3 (by kernel_rfl)
    (of_decide_eq_true (by kernel_rfl)) (by unfold Func.isWrapper; rw [if_neg (of_decide_eq_false (by kernel_rfl))]; exact ⟨rfl, rfl⟩)
    (fun os started H enc _ F => by rw [OpenClaim.pre_eq_preRow]; exact fnExactShowHome_lifted os started H enc F)

theorem fnExactShowHome_plain (f : FuncId) (fn : Func) (hf : Tryd.pinned.checked.prog.funcNamed "loop.example/g00773/laws.FnExactShowHome" = some f) (hfn : Tryd.pinned.checked.prog.funcs[f]? = some fn) :
    false = Tryd.pinned.checked.prog.looks [] ∧ ∀ (j : Nat) t, fn.params[j]? = some t → Tryd.pinned.checked.prog.wantsStandIn t = false := by
  obtain rfl : f = 3 := Option.some.inj ((show Tryd.prog.funcNamed "loop.example/g00773/laws.FnExactShowHome" = some 3 by kernel_rfl).symm.trans hf) |>.symm
  obtain rfl : fn = Tryd.f3 := (Option.some.inj (Tryd.func3.symm.trans hfn)).symm
  refine ⟨by kernel_rfl, fun j t ht => ?_⟩
  rw [Tryd.params3] at ht
  have ht' := Array.mem_of_getElem? ht
  simp at ht'
  rcases ht' with rfl | rfl
  · exact (show Tryd.prog.wantsStandIn 3 = false by kernel_rfl)
  · exact (show Tryd.prog.wantsStandIn 22 = false by kernel_rfl)

theorem fnExactShowHome_card : Rows.FnExactShowHomeCardSaid :=
  Claim7.holds_tied_plain_at .later [] _ _ _ _ fnExactShowHome_said (fun _ h => by cases h) (by kernel_rfl) (fun _ h => by cases h) fnExactShowHome_row_tie rfl ⟨rfl, rfl⟩ (by kernel_rfl) rfl fnExactShowHome_plain (by kernel_rfl)

end Go.Proofs.YtijfjgenbdbafaaDoor
