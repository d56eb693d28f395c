/- The law of DpLook: what the program's DpLook gives is what the reference's gives. The table of known signs is held as the program's text lays it. -/
import Derived.Test.YtijfjgenbdbafaaDoorLook2
import Derived.Test.YtijfjgenbdbafaaDoorFrameIs
import Derived.Test.YtijfjgenbdbafaaDoorFrameD
namespace Go.Proofs.YtijfjgenbdbafaaDoor
open Go Go.RowKit Go.ChangeShapes Go.WideShapes Go.ChangeAt Go.Joins
open Go.ChangeMaps (open_string)

set_option maxRecDepth 100000 in
set_option maxHeartbeats 4000000 in
theorem law_fnExactDpLook (vp : Value) (p : List (List EntD)) (hzp : (∀ l ∈ p, l.length ≤ 9223372036854775807 ∧ ∀ e ∈ l, e.s.size ≤ 9223372036854775807)) (hnp : p.length ≤ 9223372036854775807) (s : ByteArray) (hss : s.size ≤ 9223372036854775807) (w : World) (hT : Tab w) (hp : IsSS w vp p) :
    Calls Tryd.prog 6 #[vp, .string s] w fun e w' => e = .returned (.bool true) ∧ Below w.heap.size w w' := by
  have HT0 := Lib.hid hT
  clear hT
  have HAp0 := Lib.hid hp
  have Hzp := Lib.hid hzp
  clear hp hzp
  by_cases bigs : s.size ≤ 1048576
  rotate_left
  · go_enter Tryd.func6, Tryd.ntmps6
    go_wp2
    go_ret
    exact ⟨rfl, bel0 w⟩
  clear hss
  go_enter Tryd.func6, Tryd.ntmps6
  go_wp2_with fail
  refine (szSS_is vp p Hzp.out hnp 1048576 (by omega) (by omega) _ HAp0.out).mono ?_
  rintro e w1 ⟨rp, rfl, hrp, hb1⟩
  have B1 := hb1
  have HT1 := Lib.hid (HT0.out.bl hb1)
  clear HT0
  have HAp1 := Lib.hid (HAp0.out.next hb1)
  clear HAp0
  by_cases negp : rp < 0
  · go_wp2
    go_ret
    exact ⟨rfl, B1⟩
  have smp : szSS p ≤ 1048576 := by omega
  clear hrp hnp Hzp
  go_wp2_with fail
  refine (toSS_is vp p smp _ HAp1.out).mono ?_
  rintro e w2 ⟨yp, rfl, fryp, hb2⟩
  have B2 := belN B1 hb2
  have HT2 := Lib.hid (HT1.out.bl hb2)
  clear HT1
  have HAp2 := Lib.hid (HAp1.out.next hb2)
  clear HAp1
  have Hyp2 := Lib.hid fryp
  clear fryp
  go_wp2_with fail
  refine (dpLook_spec yp p smp s (by omega) _  Hyp2.out).mono ?_
  rintro e w3 ⟨⟨E, fb, hE, rfl⟩, hb3⟩
  have B3 := belN B2 hb3
  have HT3 := Lib.hid (HT2.out.bl hb3)
  clear HT2
  have HAp3 := Lib.hid (HAp2.out.next hb3)
  clear HAp2
  have Hyp3 := Lib.hid (Hyp2.out.next hb3)
  clear Hyp2
  clear Hyp3
  have HE := Lib.hid hE
  clear hE
  go_wp2_with fail
  have HT3a := Lib.hid (HT3.out.al (.cells #[.int .i64 E.h, .int .i64 E.i, .string E.s, .int .i64 E.d] 37))
  clear HT3
  have HAp3a := Lib.hid (HAp3.out.next (belA (bel0 w3) (.cells #[.int .i64 E.h, .int .i64 E.i, .string E.s, .int .i64 E.d] 37)))
  clear HAp3
  have hq3a := Blk.new' w3 37 #[.int .i64 E.h, .int .i64 E.i, .string E.s, .int .i64 E.d] w3.heap.size
  have B3a := belA B3 (.cells #[.int .i64 E.h, .int .i64 E.i, .string E.s, .int .i64 E.d] 37)
  refine (toSS_is vp p smp _ HAp3a.out).mono ?_
  rintro e w4 ⟨xp, rfl, frxp, hb4⟩
  have B4 := belN B3a hb4
  have HT4 := Lib.hid (HT3a.out.bl hb4)
  clear HT3a
  have HAp4 := Lib.hid (HAp3a.out.next hb4)
  clear HAp3a
  have hq4 := hq3a.below hb4 hq3a.lt
  clear hq3a
  have Hxp4 := Lib.hid frxp
  clear frxp
  go_wp2_with fail
  refine (dpLook_impl xp p smp s (by omega) _ HT4.out Hxp4.out).mono ?_
  rintro e w5 ⟨⟨E2, fb2, hE, rfl⟩, hb5⟩
  have B5 := belN B4 hb5
  have HT5 := Lib.hid (HT4.out.bl hb5)
  clear HT4
  have HAp5 := Lib.hid (HAp4.out.next hb5)
  clear HAp4
  have hq5 := hq4.below hb5 hq4.lt
  clear hq4
  have Hxp5 := Lib.hid (Hxp4.out.next hb5)
  clear Hxp4
  obtain ⟨rfl, rfl⟩ : E = E2 ∧ fb = fb2 := by have h := HE.out.symm.trans hE; injection h with h1 h2; exact ⟨h1, h2⟩
  have hlq := hq5.lt
  have c0 := hq5.get (x := .int .i64 E.h) 0 rfl
  have c1 := hq5.get (x := .int .i64 E.i) 1 rfl
  have c2 := hq5.get (x := .string E.s) 2 rfl
  have c3 := hq5.get (x := .int .i64 E.d) 3 rfl
  clear hE
  go_wp2_with fail
  have HT5a := Lib.hid (HT5.out.al (.cells #[.int .i64 E.h, .int .i64 E.i, .string E.s, .int .i64 E.d] 37))
  clear HT5
  have HAp5a := Lib.hid (HAp5.out.next (belA (bel0 w5) (.cells #[.int .i64 E.h, .int .i64 E.i, .string E.s, .int .i64 E.d] 37)))
  clear HAp5
  have hq5a := hq5.alloc (.cells #[.int .i64 E.h, .int .i64 E.i, .string E.s, .int .i64 E.d] 37)
  clear hq5
  have Hxp5a := Lib.hid (Hxp5.out.next (belA (bel0 w5) (.cells #[.int .i64 E.h, .int .i64 E.i, .string E.s, .int .i64 E.d] 37)))
  clear Hxp5
  have B5a := belA B5 (.cells #[.int .i64 E.h, .int .i64 E.i, .string E.s, .int .i64 E.d] 37)
  refine (eqEnt_self E _).mono ?_
  rintro e w6 ⟨rfl, hb6⟩
  have B6 := belN B5a hb6
  have HT6 := Lib.hid (HT5a.out.bl hb6)
  clear HT5a
  have HAp6 := Lib.hid (HAp5a.out.next hb6)
  clear HAp5a
  have hq6 := hq5a.below hb6 hq5a.lt
  clear hq5a
  have Hxp6 := Lib.hid (Hxp5a.out.next hb6)
  clear Hxp5a
  clear c0 c1 c2 c3 hlq
  go_wp2_with fail
  refine (toSS_is vp p smp _ HAp6.out).mono ?_
  rintro e w7 ⟨zp, rfl, frzp, hb7⟩
  have B7 := belN B6 hb7
  have HT7 := Lib.hid (HT6.out.bl hb7)
  clear HT6
  have HAp7 := Lib.hid (HAp6.out.next hb7)
  clear HAp6
  have hq7 := hq6.below hb7 hq6.lt
  clear hq6
  have Hxp7 := Lib.hid (Hxp6.out.next hb7)
  clear Hxp6
  have Hzp := Lib.hid frzp
  clear frzp
  go_wp2_with fail
  refine (eqSS_is xp zp p smp _ Hxp7.out Hzp.out).mono ?_
  rintro e w8 ⟨rfl, hb8⟩
  have B8 := belN B7 hb8
  have HT8 := Lib.hid (HT7.out.bl hb8)
  clear HT7
  have HAp8 := Lib.hid (HAp7.out.next hb8)
  clear HAp7
  have hq8 := hq7.below hb8 hq7.lt
  clear hq7
  have Hxp8 := Lib.hid (Hxp7.out.next hb8)
  clear Hxp7
  clear Hzp
  go_wp2
  go_ret
  exact ⟨rfl, B8⟩

set_option maxRecDepth 100000 in
theorem fnExactDpLook_contract (H : Type) (enc : TypeId × Value → H) (W : World) (base : Nat) (args : Array Value) (ds gs : List (DataW H)) (before : List MemPlace)
    (hval : ∀ (j : Nat) t v, Tryd.f6.params[j]? = some t → args[j]? = some v → Value.okWide Tryd.prog W .any base t v)
    (hW : DataW.Whole enc Tryd.prog Tryd.f6.params.toList Rows.fnExactDpLookSpec.vars false W args.toList ds gs before) (hL : laidMetH Tryd.prog Rows.fnExactDpLookRow.laid W) :
    Calls Tryd.prog 6 args W fun e W' => ∃ v, e = .returned v ∧ Rows.fnExactDpLookSpec.post enc Tryd.prog Tryd.f6 false true false false W args v W' := by
  have hW' := hW
  obtain ⟨p, q, hA0, hV, rfl, hfz, hnd⟩ := hW
  have hA : DataW.TrodAll enc Tryd.prog W 0 (fun _ => true) true Tryd.f6.params.toList args.toList ds p := hA0
  rw [Tryd.params6] at hA hval
  have hT := tab_of hL
  obtain ⟨_, _, _, g1, _, _, rfl, _⟩ := trodVars_one hV
  obtain ⟨v0, v1, d0, d1, p0, p1, rfl, rfl, rfl, h0, h1⟩ := trodAll_two hA
  obtain ⟨p, hzp, hnp, hIp⟩ := open_pages_is (hval 0 29 v0 rfl rfl) h0
  obtain ⟨s, rfl, rfl, rfl, ws⟩ := open_string Tryd.underlying9 (hval 1 9 v1 rfl rfl) h1
  clear hA0
  refine (law_fnExactDpLook _ p hzp hnp s (Nat.le_trans ws (by unfold maxLen; omega)) W hT hIp).mono fun e W' ⟨he, hw⟩ => ?_
  subst he
  exact ⟨_, rfl, law_postD Tryd.laidOut (by kernel_rfl) rfl Tryd.underlying4 (Tryd.varsOk hT) rfl hW' hw⟩

theorem fnExactDpLook_laid_met (os : Os) : laidMet Tryd.prog Rows.fnExactDpLookRow.laid ((laidWorld os #[.slice none 0 0, .string ByteArray.empty]).forCall (fun _ _ => 0) ⟨#[], #[.slice none 0 0, .string ByteArray.empty], []⟩).memory :=
  laidMet_of_run' 8 (by kernel_rfl) (by kernel_rfl)
theorem fnExactDpLook_reads (os : Os) {H : Type} (enc : TypeId × Value → H) : DataW.whole enc Tryd.prog ((laidWorld os #[.slice none 0 0, .string ByteArray.empty]).forCall (fun _ _ => 0) ⟨#[], #[.slice none 0 0, .string ByteArray.empty], []⟩).memory Tryd.f6.params.toList Rows.fnExactDpLookSpec.vars false (#[.slice none 0 0, .string ByteArray.empty] : Array Value).toList 8 = some ([.nil, .lit (.string [])], [Rows.laid_loop_example_g00773_impl_knownParts], [] ++ MemPlace.row ⟨0, 0, none⟩ 54) := by kernel_rfl

set_option maxRecDepth 100000 in
theorem fnExactDpLook_lifted (os : Os) (started : os.Started) (H : Type) (enc : TypeId × Value → H) (F : Stop.Interp) :
    ReturnsInHanded {} Tryd.checked os 6 .any ((OpenSpec.ofChange Rows.fnExactDpLookSpec).preRow enc Tryd.prog Tryd.f6 Rows.fnExactDpLookRow.domain false Rows.fnExactDpLookRow.laid) (((OpenSpec.ofChange Rows.fnExactDpLookSpec).at F).post enc Tryd.prog Tryd.f6 false true false false) := by
  refine returnsInHanded_of_row (C := Tryd.checked) (s := OpenSpec.ofChange Rows.fnExactDpLookSpec) Tryd.own started (by kernel_rfl) Tryd.func6
    (witness_row_at (enc := enc) (C := Tryd.checked) false (laidWorld os #[.slice none 0 0, .string ByteArray.empty]) #[.slice none 0 0, .string ByteArray.empty] rfl (by kernel_rfl) (by kernel_rfl) (by kernel_rfl)
      (OpenSpec.preRow_of_cond 8 (fnExactDpLook_reads os enc) (by kernel_rfl) (fun k hk => by cases hk) (by kernel_rfl) (fnExactDpLook_laid_met os))) ?_
  intro W base args ds gs before hval hW _ _ _ hL _ _
  exact fnExactDpLook_contract H enc W base args ds gs before hval hW hL

theorem fnExactDpLook_said : Rows.FnExactDpLookSaid :=
  OpenClaim.holds_of_cond 6 Tryd.f6 rfl rfl rfl rfl rfl rfl rfl ⟨rfl, rfl, rfl, rfl, rfl⟩ rfl rfl rfl rfl rfl (by kernel_rfl) Tryd.func6 (by kernel_rfl)
    (of_decide_eq_true (by kernel_rfl)) (by unfold Func.isWrapper; rw [if_neg (of_decide_eq_false (by kernel_rfl))]; exact ⟨rfl, rfl⟩)
    (fun os started H enc _ F => by rw [OpenClaim.pre_eq_preRow]; exact fnExactDpLook_lifted os started H enc F)

theorem fnExactDpLook_plain (f : FuncId) (fn : Func) (hf : Tryd.pinned.checked.prog.funcNamed "loop.example/g00773/laws.FnExactDpLook" = some f) (hfn : Tryd.pinned.checked.prog.funcs[f]? = some fn) :
    false = Tryd.pinned.checked.prog.looks [] ∧ ∀ (j : Nat) t, fn.params[j]? = some t → Tryd.pinned.checked.prog.wantsStandIn t = false := by
  obtain rfl : f = 6 := Option.some.inj ((show Tryd.prog.funcNamed "loop.example/g00773/laws.FnExactDpLook" = some 6 by kernel_rfl).symm.trans hf) |>.symm
  obtain rfl : fn = Tryd.f6 := (Option.some.inj (Tryd.func6.symm.trans hfn)).symm
  refine ⟨by kernel_rfl, fun j t ht => ?_⟩
  rw [Tryd.params6] at ht
  have ht' := Array.mem_of_getElem? ht
  simp at ht'
  rcases ht' with rfl | rfl
  · exact (show Tryd.prog.wantsStandIn 29 = false by kernel_rfl)
  · exact (show Tryd.prog.wantsStandIn 9 = false by kernel_rfl)

theorem fnExactDpLook_card : Rows.FnExactDpLookCardSaid :=
  Claim7.holds_tied_plain_at .later [] _ _ _ _ fnExactDpLook_said (fun _ h => by cases h) (by kernel_rfl) (fun _ h => by cases h) fnExactDpLook_row_tie rfl ⟨rfl, rfl⟩ (by kernel_rfl) rfl fnExactDpLook_plain (by kernel_rfl)

end Go.Proofs.YtijfjgenbdbafaaDoor
