/- The law of ReadHome: what the program's ReadHome gives is what the reference's gives, in new memory. The table of known signs is held as the program's text lays it. -/
import Derived.Test.YtijfjgenbdbafaaDoorRHomeS
import Derived.Test.YtijfjgenbdbafaaDoorHeld
import Derived.Test.YtijfjgenbdbafaaDoorFrameD
namespace Go.Proofs.YtijfjgenbdbafaaDoor
open Go Go.RowKit Go.ChangeShapes Go.WideShapes Go.ChangeAt Go.Joins
open Go.ChangeMaps (open_string)


set_option maxRecDepth 100000 in
set_option maxHeartbeats 4000000 in
theorem law_fnExactReadHome (s : ByteArray) (hss : s.size ≤ 9223372036854775807) (w : World) (hT : Tab w)  :
    Calls Tryd.prog 8 #[.string s] w fun e w' => e = .returned (.bool true) ∧ Below w.heap.size w w' := by
  have HT0 := Lib.hid hT
  clear hT
  by_cases bigs : s.size ≤ 1048576
  rotate_left
  · go_enter Tryd.func8, Tryd.ntmps8
    go_wp2
    go_ret
    exact ⟨rfl, bel0 w⟩
  clear hss
  obtain ⟨q, L, ok, hP⟩ : ∃ q L ok, homeP s = ((q, L), ok) := ⟨_, _, _, rfl⟩
  have HP := Lib.hid hP
  have hpL : L.length ≤ 10000000 := homeP_len HP.out
  clear hP
  go_enter Tryd.func8, Tryd.ntmps8
  go_wp2_with fail
  refine (readHome_spec2 s (by omega) HP.out _  ).mono ?_
  rintro e w1 ⟨pL, lopL, uppL, rfl, hlopL, frpL, hb1⟩
  have B1 := hb1
  have z1 := hb1.size
  have NpL_1 := Lib.hid frpL
  have huppL := frpL.1
  clear frpL
  go_wp2_with fail
  refine (readHome_impl2 s (by omega) HP.out _ (HT0.out.bl B1) ).mono ?_
  rintro e w2 ⟨gL, logL, upgL, rfl, hlogL, frgL, hb2⟩
  have B2 := belN B1 hb2
  have z2 := hb2.size
  have NpL_2 := Lib.hid (NpL_1.out.next hb2)
  clear NpL_1
  have NgL_2 := Lib.hid frgL
  have hupgL := frgL.1
  clear frgL
  go_wp2_with fail
  refine (eqS_in gL pL L hpL _ (OwnS.isS NgL_2.out.is) (OwnS.isS NpL_2.out.is)).mono ?_
  rintro e w3 ⟨rfl, hb3⟩
  have B3 := belN B2 hb3
  have z3 := hb3.size
  have NpL_3 := Lib.hid (NpL_2.out.next hb3)
  clear NpL_2
  have NgL_3 := Lib.hid (NgL_2.out.next hb3)
  clear NgL_2
  go_wp2_with fail
  refine (markS_in gL L hpL 1 (by omega) (by omega) _ _ _ NgL_3.out).mono ?_
  rintro e w4 ⟨rfl, hN4, hbt4⟩
  have z4 := hbt4.size
  have B4 := B3.trans (hbt4.bel (by omega) (by omega))
  have NpL_4 := Lib.hid (NpL_3.out.betw hbt4 (by omega))
  clear NpL_3
  have NgL_4 := Lib.hid hN4
  clear NgL_3
  clear hN4
  -- held
  go_wp2_with fail
  refine (heldS_in gL L.length hpL 1 (by omega) (by omega) _ (OwnS.isS NgL_4.out.is)).mono ?_
  rintro e w5 ⟨rfl, hb5⟩
  have B5 := belN B4 hb5
  have z5 := hb5.size
  have NpL_5 := Lib.hid (NpL_4.out.next hb5)
  clear NpL_4
  have NgL_5 := Lib.hid (NgL_4.out.next hb5)
  clear NgL_4
  go_wp2_with fail
  refine (readHome_impl2 s (by omega) HP.out _ (HT0.out.bl B5) ).mono ?_
  rintro e w6 ⟨qL, loqL, upqL, rfl, hloqL, frqL, hb6⟩
  have B6 := belN B5 hb6
  have z6 := hb6.size
  have NpL_6 := Lib.hid (NpL_5.out.next hb6)
  clear NpL_5
  have NgL_6 := Lib.hid (NgL_5.out.next hb6)
  clear NgL_5
  have NqL_6 := Lib.hid frqL
  have hupqL := frqL.1
  clear frqL
  go_wp2_with fail
  refine (eqS_in qL pL L hpL _ (OwnS.isS NqL_6.out.is) (OwnS.isS NpL_6.out.is)).mono ?_
  rintro e w7 ⟨rfl, hb7⟩
  have B7 := belN B6 hb7
  have z7 := hb7.size
  have NpL_7 := Lib.hid (NpL_6.out.next hb7)
  clear NpL_6
  have NgL_7 := Lib.hid (NgL_6.out.next hb7)
  clear NgL_6
  have NqL_7 := Lib.hid (NqL_6.out.next hb7)
  clear NqL_6
  -- held
  go_wp2_with fail
  refine (heldS_in gL L.length hpL 1 (by omega) (by omega) _ (OwnS.isS NgL_7.out.is)).mono ?_
  rintro e w8 ⟨rfl, hb8⟩
  have B8 := belN B7 hb8
  have z8 := hb8.size
  have NpL_8 := Lib.hid (NpL_7.out.next hb8)
  clear NpL_7
  have NgL_8 := Lib.hid (NgL_7.out.next hb8)
  clear NgL_7
  have NqL_8 := Lib.hid (NqL_7.out.next hb8)
  clear NqL_7
  go_wp2
  go_ret
  exact ⟨rfl, B8⟩

set_option maxRecDepth 100000 in
theorem fnExactReadHome_contract (H : Type) (enc : TypeId × Value → H) (W : World) (base : Nat) (args : Array Value) (ds gs : List (DataW H)) (before : List MemPlace)
    (hval : ∀ (j : Nat) t v, Tryd.f8.params[j]? = some t → args[j]? = some v → Value.okWide Tryd.prog W .any base t v)
    (hW : DataW.Whole enc Tryd.prog Tryd.f8.params.toList Rows.fnExactReadHomeSpec.vars false W args.toList ds gs before) (hL : laidMetH Tryd.prog Rows.fnExactReadHomeRow.laid W) :
    Calls Tryd.prog 8 args W fun e W' => ∃ v, e = .returned v ∧ Rows.fnExactReadHomeSpec.post enc Tryd.prog Tryd.f8 false true false false W args v W' := by
  have hW' := hW
  obtain ⟨p, q, hA0, hV, rfl, hfz, hnd⟩ := hW
  have hA : DataW.TrodAll enc Tryd.prog W 0 (fun _ => true) true Tryd.f8.params.toList args.toList ds p := hA0
  rw [Tryd.params8] at hA hval
  have hT := tab_of hL
  obtain ⟨_, _, _, g1, _, _, rfl, _⟩ := trodVars_one hV
  obtain ⟨v0, d0, rfl, rfl, h0⟩ := trodAll_one hA
  obtain ⟨s, rfl, rfl, rfl, ws⟩ := open_string Tryd.underlying9 (hval 0 9 v0 rfl rfl) h0
  clear hA0
  refine (law_fnExactReadHome s (Nat.le_trans ws (by unfold maxLen; omega)) W hT ).mono fun e W' ⟨he, hw⟩ => ?_
  subst he
  exact ⟨_, rfl, law_postD Tryd.laidOut (by kernel_rfl) rfl Tryd.underlying4 (Tryd.varsOk hT) rfl hW' hw⟩

theorem fnExactReadHome_laid_met (os : Os) : laidMet Tryd.prog Rows.fnExactReadHomeRow.laid ((laidWorld os #[.string ByteArray.empty]).forCall (fun _ _ => 0) ⟨#[], #[.string ByteArray.empty], []⟩).memory :=
  laidMet_of_run' 8 (by kernel_rfl) (by kernel_rfl)
theorem fnExactReadHome_reads (os : Os) {H : Type} (enc : TypeId × Value → H) : DataW.whole enc Tryd.prog ((laidWorld os #[.string ByteArray.empty]).forCall (fun _ _ => 0) ⟨#[], #[.string ByteArray.empty], []⟩).memory Tryd.f8.params.toList Rows.fnExactReadHomeSpec.vars false (#[.string ByteArray.empty] : Array Value).toList 8 = some ([.lit (.string [])], [Rows.laid_loop_example_g00773_impl_knownParts], [] ++ MemPlace.row ⟨0, 0, none⟩ 54) := by kernel_rfl

set_option maxRecDepth 100000 in
theorem fnExactReadHome_lifted (os : Os) (started : os.Started) (H : Type) (enc : TypeId × Value → H) (F : Stop.Interp) :
    ReturnsInHanded {} Tryd.checked os 8 .any ((OpenSpec.ofChange Rows.fnExactReadHomeSpec).preRow enc Tryd.prog Tryd.f8 Rows.fnExactReadHomeRow.domain false Rows.fnExactReadHomeRow.laid) (((OpenSpec.ofChange Rows.fnExactReadHomeSpec).at F).post enc Tryd.prog Tryd.f8 false true false false) := by
  refine returnsInHanded_of_row (C := Tryd.checked) (s := OpenSpec.ofChange Rows.fnExactReadHomeSpec) Tryd.own started (by kernel_rfl) Tryd.func8
    (witness_row_at (enc := enc) (C := Tryd.checked) false (laidWorld os #[.string ByteArray.empty]) #[.string ByteArray.empty] rfl (by kernel_rfl) (by kernel_rfl) (by kernel_rfl)
      (OpenSpec.preRow_of_cond 8 (fnExactReadHome_reads os enc) (by kernel_rfl) (fun k hk => by cases hk) (by kernel_rfl) (fnExactReadHome_laid_met os))) ?_
  intro W base args ds gs before hval hW _ _ _ hL _ _
  exact fnExactReadHome_contract H enc W base args ds gs before hval hW hL

theorem fnExactReadHome_said : Rows.FnExactReadHomeSaid :=
  OpenClaim.holds_of_cond 8 Tryd.f8 rfl rfl rfl rfl rfl rfl rfl ⟨rfl, rfl, rfl, rfl, rfl⟩ rfl rfl rfl rfl rfl (by kernel_rfl) Tryd.func8 (by kernel_rfl)
    (of_decide_eq_true (by kernel_rfl)) (by unfold Func.isWrapper; rw [if_neg (of_decide_eq_false (by kernel_rfl))]; exact ⟨rfl, rfl⟩)
    (fun os started H enc _ F => by rw [OpenClaim.pre_eq_preRow]; exact fnExactReadHome_lifted os started H enc F)

theorem fnExactReadHome_plain (f : FuncId) (fn : Func) (hf : Tryd.pinned.checked.prog.funcNamed "loop.example/g00773/laws.FnExactReadHome" = some f) (hfn : Tryd.pinned.checked.prog.funcs[f]? = some fn) :
    false = Tryd.pinned.checked.prog.looks [] ∧ ∀ (j : Nat) t, fn.params[j]? = some t → Tryd.pinned.checked.prog.wantsStandIn t = false := by
  obtain rfl : f = 8 := Option.some.inj ((show Tryd.prog.funcNamed "loop.example/g00773/laws.FnExactReadHome" = some 8 by kernel_rfl).symm.trans hf) |>.symm
  obtain rfl : fn = Tryd.f8 := (Option.some.inj (Tryd.func8.symm.trans hfn)).symm
  refine ⟨by kernel_rfl, fun j t ht => ?_⟩
  rw [Tryd.params8] at ht
  obtain rfl : t = 9 := by simpa using Array.mem_of_getElem? ht
  exact (show Tryd.prog.wantsStandIn 9 = false by kernel_rfl)

theorem fnExactReadHome_card : Rows.FnExactReadHomeCardSaid :=
  Claim7.holds_tied_plain_at .later [] _ _ _ _ fnExactReadHome_said (fun _ h => by cases h) (by kernel_rfl) (fun _ h => by cases h) fnExactReadHome_row_tie rfl ⟨rfl, rfl⟩ (by kernel_rfl) rfl fnExactReadHome_plain (by kernel_rfl)

end Go.Proofs.YtijfjgenbdbafaaDoor
