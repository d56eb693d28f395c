/- The law of DpOk: what the program's DpOk says is what the reference's says. The table of known signs is held as the program's text lays it. -/
import Derived.Test.YtijfjgenbdbafaaDoorDp
import Derived.Test.YtijfjgenbdbafaaDoorFrameIs
import Derived.Test.YtijfjgenbdbafaaDoorFrameD
namespace Go.Proofs.YtijfjgenbdbafaaDoor
open Go Go.RowKit Go.ChangeShapes Go.WideShapes Go.ChangeAt Go.Joins
open Go.ChangeMaps (open_string)

set_option maxRecDepth 100000 in
set_option maxHeartbeats 4000000 in
theorem law_fnExactDpOk (vp : Value) (p : List (List EntD)) (hzp : (∀ l ∈ p, l.length ≤ 9223372036854775807 ∧ ∀ e ∈ l, e.s.size ≤ 9223372036854775807)) (hnp : p.length ≤ 9223372036854775807) (w : World) (hT : Tab w) (hp : IsSS w vp p) :
    Calls Tryd.prog 4 #[vp] w fun e w' => e = .returned (.bool true) ∧ Below w.heap.size w w' := by
  have HT0 := Lib.hid hT
  clear hT
  have HAp0 := Lib.hid hp
  have Hzp := Lib.hid hzp
  clear hp hzp
  go_enter Tryd.func4, Tryd.ntmps4
  go_wp2_with fail
  refine (szSS_is vp p Hzp.out hnp 1048576 (by omega) (by omega) _ HAp0.out).mono ?_
  rintro e w1 ⟨rp, rfl, hrp, hb1⟩
  have B1 := hb1
  have HT1 := Lib.hid (HT0.out.bl hb1)
  clear HT0
  have HAp1 := Lib.hid (HAp0.out.next hb1)
  clear HAp0
  by_cases negp : rp < 0
  · go_wp2
    go_ret
    exact ⟨rfl, B1⟩
  have smp : szSS p ≤ 1048576 := by omega
  clear hrp hnp Hzp
  go_wp2_with fail
  refine (toSS_is vp p smp _ HAp1.out).mono ?_
  rintro e w2 ⟨yp, rfl, fryp, hb2⟩
  have B2 := belN B1 hb2
  have HT2 := Lib.hid (HT1.out.bl hb2)
  clear HT1
  have HAp2 := Lib.hid (HAp1.out.next hb2)
  clear HAp1
  have Hyp2 := Lib.hid fryp
  clear fryp
  go_wp2_with fail
  refine (dpOk_spec yp p smp _  Hyp2.out).mono ?_
  rintro e w3 ⟨rfl, hb3⟩
  have B3 := belN B2 hb3
  have HT3 := Lib.hid (HT2.out.bl hb3)
  clear HT2
  have HAp3 := Lib.hid (HAp2.out.next hb3)
  clear HAp2
  have Hyp3 := Lib.hid (Hyp2.out.next hb3)
  clear Hyp2
  clear Hyp3
  go_wp2_with fail
  refine (toSS_is vp p smp _ HAp3.out).mono ?_
  rintro e w4 ⟨xp, rfl, frxp, hb4⟩
  have B4 := belN B3 hb4
  have HT4 := Lib.hid (HT3.out.bl hb4)
  clear HT3
  have HAp4 := Lib.hid (HAp3.out.next hb4)
  clear HAp3
  have Hxp4 := Lib.hid frxp
  clear frxp
  go_wp2_with fail
  refine (dpOk_impl xp p smp _ HT4.out Hxp4.out).mono ?_
  rintro e w5 ⟨rfl, hb5⟩
  have B5 := belN B4 hb5
  have HT5 := Lib.hid (HT4.out.bl hb5)
  clear HT4
  have HAp5 := Lib.hid (HAp4.out.next hb5)
  clear HAp4
  have Hxp5 := Lib.hid (Hxp4.out.next hb5)
  clear Hxp4
  go_wp2_with fail
  refine (toSS_is vp p smp _ HAp5.out).mono ?_
  rintro e w6 ⟨zp, rfl, frzp, hb6⟩
  have B6 := belN B5 hb6
  have HT6 := Lib.hid (HT5.out.bl hb6)
  clear HT5
  have HAp6 := Lib.hid (HAp5.out.next hb6)
  clear HAp5
  have Hxp6 := Lib.hid (Hxp5.out.next hb6)
  clear Hxp5
  have Hzp := Lib.hid frzp
  clear frzp
  go_wp2_with fail
  refine (eqSS_is xp zp p smp _ Hxp6.out Hzp.out).mono ?_
  rintro e w7 ⟨rfl, hb7⟩
  have B7 := belN B6 hb7
  have HT7 := Lib.hid (HT6.out.bl hb7)
  clear HT6
  have HAp7 := Lib.hid (HAp6.out.next hb7)
  clear HAp6
  have Hxp7 := Lib.hid (Hxp6.out.next hb7)
  clear Hxp6
  clear Hzp
  go_wp2
  go_ret
  exact ⟨rfl, B7⟩

set_option maxRecDepth 100000 in
theorem fnExactDpOk_contract (H : Type) (enc : TypeId × Value → H) (W : World) (base : Nat) (args : Array Value) (ds gs : List (DataW H)) (before : List MemPlace)
    (hval : ∀ (j : Nat) t v, Tryd.f4.params[j]? = some t → args[j]? = some v → Value.okWide Tryd.prog W .any base t v)
    (hW : DataW.Whole enc Tryd.prog Tryd.f4.params.toList Rows.fnExactDpOkSpec.vars false W args.toList ds gs before) (hL : laidMetH Tryd.prog Rows.fnExactDpOkRow.laid W) :
    Calls Tryd.prog 4 args W fun e W' => ∃ v, e = .returned v ∧ Rows.fnExactDpOkSpec.post enc Tryd.prog Tryd.f4 false true false false W args v W' := by
  have hW' := hW
  obtain ⟨p, q, hA0, hV, rfl, hfz, hnd⟩ := hW
  have hA : DataW.TrodAll enc Tryd.prog W 0 (fun _ => true) true Tryd.f4.params.toList args.toList ds p := hA0
  rw [Tryd.params4] at hA hval
  have hT := tab_of hL
  obtain ⟨_, _, _, g1, _, _, rfl, _⟩ := trodVars_one hV
  obtain ⟨v0, d0, rfl, rfl, h0⟩ := trodAll_one hA
  obtain ⟨p, hzp, hnp, hIp⟩ := open_pages_is (hval 0 29 v0 rfl rfl) h0
  clear hA0
  refine (law_fnExactDpOk _ p hzp hnp W hT hIp).mono fun e W' ⟨he, hw⟩ => ?_
  subst he
  exact ⟨_, rfl, law_postD Tryd.laidOut (by kernel_rfl) rfl Tryd.underlying4 (Tryd.varsOk hT) rfl hW' hw⟩

theorem fnExactDpOk_laid_met (os : Os) : laidMet Tryd.prog Rows.fnExactDpOkRow.laid ((laidWorld os #[.slice none 0 0]).forCall (fun _ _ => 0) ⟨#[], #[.slice none 0 0], []⟩).memory :=
  laidMet_of_run' 8 (by kernel_rfl) (by kernel_rfl)
theorem fnExactDpOk_reads (os : Os) {H : Type} (enc : TypeId × Value → H) : DataW.whole enc Tryd.prog ((laidWorld os #[.slice none 0 0]).forCall (fun _ _ => 0) ⟨#[], #[.slice none 0 0], []⟩).memory Tryd.f4.params.toList Rows.fnExactDpOkSpec.vars false (#[.slice none 0 0] : Array Value).toList 8 = some ([.nil], [Rows.laid_loop_example_g00773_impl_knownParts], [] ++ MemPlace.row ⟨0, 0, none⟩ 54) := by kernel_rfl

set_option maxRecDepth 100000 in
theorem fnExactDpOk_lifted (os : Os) (started : os.Started) (H : Type) (enc : TypeId × Value → H) (F : Stop.Interp) :
    ReturnsInHanded {} Tryd.checked os 4 .any ((OpenSpec.ofChange Rows.fnExactDpOkSpec).preRow enc Tryd.prog Tryd.f4 Rows.fnExactDpOkRow.domain false Rows.fnExactDpOkRow.laid) (((OpenSpec.ofChange Rows.fnExactDpOkSpec).at F).post enc Tryd.prog Tryd.f4 false true false false) := by
  refine returnsInHanded_of_row (C := Tryd.checked) (s := OpenSpec.ofChange Rows.fnExactDpOkSpec) Tryd.own started (by kernel_rfl) Tryd.func4
    (witness_row_at (enc := enc) (C := Tryd.checked) false (laidWorld os #[.slice none 0 0]) #[.slice none 0 0] rfl (by kernel_rfl) (by kernel_rfl) (by kernel_rfl)
      (OpenSpec.preRow_of_cond 8 (fnExactDpOk_reads os enc) (by kernel_rfl) (fun k hk => by cases hk) (by kernel_rfl) (fnExactDpOk_laid_met os))) ?_
  intro W base args ds gs before hval hW _ _ _ hL _ _
  exact fnExactDpOk_contract H enc W base args ds gs before hval hW hL

theorem fnExactDpOk_said : Rows.FnExactDpOkSaid :=
  OpenClaim.holds_of_cond 4 Tryd.f4 rfl rfl rfl rfl rfl rfl rfl ⟨rfl, rfl, rfl, rfl, rfl⟩ rfl rfl rfl rfl rfl (by kernel_rfl) Tryd.func4 (by kernel_rfl)
    (of_decide_eq_true (by kernel_rfl)) (by unfold Func.isWrapper; rw [if_neg (of_decide_eq_false (by kernel_rfl))]; exact ⟨rfl, rfl⟩)
    (fun os started H enc _ F => by rw [OpenClaim.pre_eq_preRow]; exact fnExactDpOk_lifted os started H enc F)

theorem fnExactDpOk_plain (f : FuncId) (fn : Func) (hf : Tryd.pinned.checked.prog.funcNamed "loop.example/g00773/laws.FnExactDpOk" = some f) (hfn : Tryd.pinned.checked.prog.funcs[f]? = some fn) :
    false = Tryd.pinned.checked.prog.looks [] ∧ ∀ (j : Nat) t, fn.params[j]? = some t → Tryd.pinned.checked.prog.wantsStandIn t = false := by
  obtain rfl : f = 4 := Option.some.inj ((show Tryd.prog.funcNamed "loop.example/g00773/laws.FnExactDpOk" = some 4 by kernel_rfl).symm.trans hf) |>.symm
  obtain rfl : fn = Tryd.f4 := (Option.some.inj (Tryd.func4.symm.trans hfn)).symm
  refine ⟨by kernel_rfl, fun j t ht => ?_⟩
  rw [Tryd.params4] at ht
  obtain rfl : t = 29 := by simpa using Array.mem_of_getElem? ht
  exact (show Tryd.prog.wantsStandIn 29 = false by kernel_rfl)

theorem fnExactDpOk_card : Rows.FnExactDpOkCardSaid :=
  Claim7.holds_tied_plain_at .later [] _ _ _ _ fnExactDpOk_said (fun _ h => by cases h) (by kernel_rfl) (fun _ h => by cases h) fnExactDpOk_row_tie rfl ⟨rfl, rfl⟩ (by kernel_rfl) rfl fnExactDpOk_plain (by kernel_rfl)

end Go.Proofs.YtijfjgenbdbafaaDoor
