/- The law of CurOpen: what the program's CurOpen gives is what the reference's gives. The table of known signs is held as the program's text lays it. -/
import Derived.Test.YthdbomkddpnhaaaGreatDoorCur
import Derived.Test.YthdbomkddpnhaaaGreatDoorFrameV
import Derived.Test.YthdbomkddpnhaaaGreatDoorFrameD
namespace Go.Proofs.YthdbomkddpnhaaaGreatDoor
open Go Go.RowKit Go.ChangeShapes Go.WideShapes Go.ChangeAt Go.Joins
open Go.ChangeMaps (open_string)

set_option maxRecDepth 100000 in
set_option maxHeartbeats 4000000 in
theorem law_fnExactCurOpen (va : Value) (a : VolD) (hza : (VolBig a)) (hna : True) (s : ByteArray) (hss : s.size ≤ 9223372036854775807) (w : World) (hT : Tab w) (ha : IsVol w va a) :
    Calls Tryz.prog 4 #[va, .string s] w fun e w' => e = .returned (.bool true) ∧ Below w.heap.size w w' := by
  have HT0 := Lib.hid hT
  clear hT
  obtain ⟨Aa, ca, ea, ha⟩ := ha
  subst ea
  have HAa0 := Lib.hid (show IsVol w (.agg #[.int .i64 a.nx, .slice Aa a.xs.length ca]) a from ⟨Aa, ca, rfl, ha⟩)
  have Hza := Lib.hid hza
  clear ha hza
  by_cases bigs : s.size ≤ 1048576
  rotate_left
  · go_enter Tryz.func4, Tryz.ntmps4
    go_wp2
    go_ret
    exact ⟨rfl, belA (bel0 w) _⟩
  clear hss
  go_enter Tryz.func4, Tryz.ntmps4
  go_wp2_with fail
  obtain ⟨w0, hw0⟩ : ∃ w0, w.alloc (.cells #[.int .i64 a.nx, .slice Aa a.xs.length ca] 24) = w0 := ⟨_, rfl⟩
  have Bx : Below w.heap.size w w0 := by rw [← hw0]; exact belA (bel0 w) _
  have hO : Blk w0 w.heap.size 24 #[.int .i64 a.nx, .slice Aa a.xs.length ca] := by rw [← hw0]; exact Blk.new' _ _ _ _ rfl
  have X0_0 := Lib.hid (hO.get 0 rfl)
  have X1_0 := Lib.hid (hO.get 1 rfl)
  rw [hw0]
  clear hw0 hO
  replace HT0 := Lib.hid (HT0.out.bl Bx)
  replace HAa0 := Lib.hid (HAa0.out.next Bx)
  refine (szV_is (.agg #[.int .i64 a.nx, .slice Aa a.xs.length ca]) a Hza.out hna 1048576 (by omega) (by omega) _ HAa0.out).mono ?_
  rintro e w1 ⟨ra, rfl, hra, hb1⟩
  have B1 := hb1
  have HT1 := Lib.hid (HT0.out.bl hb1)
  clear HT0
  have HAa1 := Lib.hid (HAa0.out.next hb1)
  clear HAa0
  have X0_1 := Lib.hid (keep1 hb1 X0_0.out (Nat.le_refl _))
  clear X0_0
  have X1_1 := Lib.hid (keep1 hb1 X1_0.out (Nat.le_refl _))
  clear X1_0
  by_cases nega : ra < 0
  · go_wp2
    go_ret
    exact ⟨rfl, belN Bx B1⟩
  have sma : szV a ≤ 1048576 := by omega
  clear hra hna Hza
  have cX0_ := X0_1.out
  have cX1_ := X1_1.out
  go_wp2_with fail
  clear cX0_ cX1_
  refine (toVol_is (.agg #[.int .i64 a.nx, .slice Aa a.xs.length ca]) a sma _ HAa1.out).mono ?_
  rintro e w2 ⟨ya, rfl, frya, hb2⟩
  have B2 := belN B1 hb2
  have HT2 := Lib.hid (HT1.out.bl hb2)
  clear HT1
  have HAa2 := Lib.hid (HAa1.out.next hb2)
  clear HAa1
  have X0_2 := Lib.hid (keep1 hb2 X0_1.out (Nat.le_refl _))
  clear X0_1
  have X1_2 := Lib.hid (keep1 hb2 X1_1.out (Nat.le_refl _))
  clear X1_1
  obtain ⟨Aya, cya, eya, qya, kya⟩ := frya
  subst eya
  have Hya2 := Lib.hid (show IsVolC w2 (.agg #[.int .i64 a.nx, .slice Aya a.xs.length cya]) a from ⟨Aya, cya, rfl, qya, kya⟩)
  clear qya
  have cX0_ := X0_2.out
  have cX1_ := X1_2.out
  go_wp2_with fail
  clear cX0_ cX1_
  refine (curOpen_spec (.agg #[.int .i64 a.nx, .slice Aya a.xs.length cya]) a sma s (by omega) _  Hya2.out).mono ?_
  rintro e w3 ⟨⟨E, fb, hE, rfl⟩, hb3⟩
  have B3 := belN B2 hb3
  have HT3 := Lib.hid (HT2.out.bl hb3)
  clear HT2
  have HAa3 := Lib.hid (HAa2.out.next hb3)
  clear HAa2
  have X0_3 := Lib.hid (keep1 hb3 X0_2.out (Nat.le_refl _))
  clear X0_2
  have X1_3 := Lib.hid (keep1 hb3 X1_2.out (Nat.le_refl _))
  clear X1_2
  have Hya3 := Lib.hid (Hya2.out.next hb3)
  clear Hya2
  clear Hya3
  have HE := Lib.hid hE
  clear hE
  have hb3a := belA (bel0 w3) (.cells #[.int .i64 E.d, .int .i64 E.h, .int .i64 E.i] 35)
  have X0_3a := Lib.hid (keep1 hb3a X0_3.out (Nat.le_refl _))
  have X1_3a := Lib.hid (keep1 hb3a X1_3.out (Nat.le_refl _))
  have cX0_ := X0_3.out
  have cX1_ := X1_3.out
  have cX0a_ := X0_3a.out
  have cX1a_ := X1_3a.out
  go_wp2_with fail
  clear cX0_ cX1_ cX0a_ cX1a_ X0_3 X1_3
  have HT3a := Lib.hid (HT3.out.al (.cells #[.int .i64 E.d, .int .i64 E.h, .int .i64 E.i] 35))
  clear HT3
  have HAa3a := Lib.hid (HAa3.out.next (belA (bel0 w3) (.cells #[.int .i64 E.d, .int .i64 E.h, .int .i64 E.i] 35)))
  clear HAa3
  have hq3a := Blk.new' w3 35 #[.int .i64 E.d, .int .i64 E.h, .int .i64 E.i] w3.heap.size
  have B3a := belA B3 (.cells #[.int .i64 E.d, .int .i64 E.h, .int .i64 E.i] 35)
  refine (toVol_is (.agg #[.int .i64 a.nx, .slice Aa a.xs.length ca]) a sma _ HAa3a.out).mono ?_
  rintro e w4 ⟨xa, rfl, frxa, hb4⟩
  have B4 := belN B3a hb4
  have HT4 := Lib.hid (HT3a.out.bl hb4)
  clear HT3a
  have HAa4 := Lib.hid (HAa3a.out.next hb4)
  clear HAa3a
  have X0_4 := Lib.hid (keep1 hb4 X0_3a.out (Nat.le_refl _))
  clear X0_3a
  have X1_4 := Lib.hid (keep1 hb4 X1_3a.out (Nat.le_refl _))
  clear X1_3a
  have hq4 := hq3a.below hb4 hq3a.lt
  clear hq3a
  obtain ⟨Axa, cxa, exa, qxa, kxa⟩ := frxa
  subst exa
  have Hxa4 := Lib.hid (show IsVolC w4 (.agg #[.int .i64 a.nx, .slice Axa a.xs.length cxa]) a from ⟨Axa, cxa, rfl, qxa, kxa⟩)
  clear qxa
  have cX0_ := X0_4.out
  have cX1_ := X1_4.out
  go_wp2_with fail
  clear cX0_ cX1_
  obtain ⟨w5, hw5⟩ : ∃ W, w4.alloc (.cells #[.int .i64 a.nx, .slice Axa a.xs.length cxa] 30) = W := ⟨_, rfl⟩
  have hb5 : Below w4.heap.size w4 w5 := by rw [← hw5]; exact belA (bel0 _) _
  have hO : Blk w5 w4.heap.size 30 #[.int .i64 a.nx, .slice Axa a.xs.length cxa] := by rw [← hw5]; exact Blk.new' _ _ _ _ rfl
  have Ka0_5 := Lib.hid (hO.get 0 rfl)
  have Ka1_5 := Lib.hid (hO.get 1 rfl)
  rw [hw5]
  clear hw5 hO
  have B5 := belN B4 hb5
  have HT5 := Lib.hid (HT4.out.bl hb5)
  clear HT4
  have HAa5 := Lib.hid (HAa4.out.next hb5)
  clear HAa4
  have X0_5 := Lib.hid (keep1 hb5 X0_4.out (Nat.le_refl _))
  clear X0_4
  have X1_5 := Lib.hid (keep1 hb5 X1_4.out (Nat.le_refl _))
  clear X1_4
  have hq5 := hq4.below hb5 hq4.lt
  clear hq4
  have Hxa5 := Lib.hid (Hxa4.out.next hb5)
  clear Hxa4
  refine (curOpen_impl (.agg #[.int .i64 a.nx, .slice Axa a.xs.length cxa]) a sma s (by omega) _ HT5.out Hxa5.out).mono ?_
  rintro e w6 ⟨⟨E2, fb2, hE, rfl⟩, hb6⟩
  have B6 := belN B5 hb6
  have HT6 := Lib.hid (HT5.out.bl hb6)
  clear HT5
  have HAa6 := Lib.hid (HAa5.out.next hb6)
  clear HAa5
  have X0_6 := Lib.hid (keep1 hb6 X0_5.out (Nat.le_refl _))
  clear X0_5
  have X1_6 := Lib.hid (keep1 hb6 X1_5.out (Nat.le_refl _))
  clear X1_5
  have hq6 := hq5.below hb6 hq5.lt
  clear hq5
  have Hxa6 := Lib.hid (Hxa5.out.next hb6)
  clear Hxa5
  have Ka0_6 := Lib.hid (keep1 hb6 Ka0_5.out (Nat.le_refl _))
  clear Ka0_5
  have Ka1_6 := Lib.hid (keep1 hb6 Ka1_5.out (Nat.le_refl _))
  clear Ka1_5
  obtain ⟨rfl, rfl⟩ : E = E2 ∧ fb = fb2 := by have h := HE.out.symm.trans hE; injection h with h1 h2; exact ⟨h1, h2⟩
  have hlq := hq6.lt
  have c0 := hq6.get (x := .int .i64 E.d) 0 rfl
  have c1 := hq6.get (x := .int .i64 E.h) 1 rfl
  have c2 := hq6.get (x := .int .i64 E.i) 2 rfl
  clear hE
  have cX0_ := X0_6.out
  have cX1_ := X1_6.out
  have cKa0_ := Ka0_6.out
  have cKa1_ := Ka1_6.out
  go_wp2_with fail
  clear cX0_ cX1_ cKa0_ cKa1_
  have hb6a := belA (bel0 w6) (.cells #[.int .i64 E.d, .int .i64 E.h, .int .i64 E.i] 35)
  have HT6a := Lib.hid (HT6.out.al (.cells #[.int .i64 E.d, .int .i64 E.h, .int .i64 E.i] 35))
  clear HT6
  have HAa6a := Lib.hid (HAa6.out.next (belA (bel0 w6) (.cells #[.int .i64 E.d, .int .i64 E.h, .int .i64 E.i] 35)))
  clear HAa6
  have X0_6a := Lib.hid (keep1 hb6a X0_6.out (Nat.le_refl _))
  clear X0_6
  have X1_6a := Lib.hid (keep1 hb6a X1_6.out (Nat.le_refl _))
  clear X1_6
  have hq6a := hq6.alloc (.cells #[.int .i64 E.d, .int .i64 E.h, .int .i64 E.i] 35)
  clear hq6
  have Hxa6a := Lib.hid (Hxa6.out.next (belA (bel0 w6) (.cells #[.int .i64 E.d, .int .i64 E.h, .int .i64 E.i] 35)))
  clear Hxa6
  have Ka0_6a := Lib.hid (keep1 hb6a Ka0_6.out (Nat.le_refl _))
  clear Ka0_6
  have Ka1_6a := Lib.hid (keep1 hb6a Ka1_6.out (Nat.le_refl _))
  clear Ka1_6
  have B6a := belA B6 (.cells #[.int .i64 E.d, .int .i64 E.h, .int .i64 E.i] 35)
  refine (eqCur_self E _).mono ?_
  rintro e w7 ⟨rfl, hb7⟩
  have B7 := belN B6a hb7
  have HT7 := Lib.hid (HT6a.out.bl hb7)
  clear HT6a
  have HAa7 := Lib.hid (HAa6a.out.next hb7)
  clear HAa6a
  have X0_7 := Lib.hid (keep1 hb7 X0_6a.out (Nat.le_refl _))
  clear X0_6a
  have X1_7 := Lib.hid (keep1 hb7 X1_6a.out (Nat.le_refl _))
  clear X1_6a
  have hq7 := hq6a.below hb7 hq6a.lt
  clear hq6a
  have Hxa7 := Lib.hid (Hxa6a.out.next hb7)
  clear Hxa6a
  have Ka0_7 := Lib.hid (keep1 hb7 Ka0_6a.out (Nat.le_refl _))
  clear Ka0_6a
  have Ka1_7 := Lib.hid (keep1 hb7 Ka1_6a.out (Nat.le_refl _))
  clear Ka1_6a
  clear c0 c1 c2 hlq
  have cX0_ := X0_7.out
  have cX1_ := X1_7.out
  have cKa0_ := Ka0_7.out
  have cKa1_ := Ka1_7.out
  go_wp2_with fail
  go_region_held3 (fun w' => w'.cell? ⟨w.heap.size, 0, none⟩ = some (.int .i64 a.nx) ∧ w'.cell? ⟨w.heap.size, 1, none⟩ = some (.slice Aa a.xs.length ca) ∧ w'.cell? ⟨w4.heap.size, 0, none⟩ = some (.int .i64 a.nx) ∧ w'.cell? ⟨w4.heap.size, 1, none⟩ = some (.slice Axa a.xs.length cxa))
    (first | go_keep | (refine ⟨keep1 hb9 ?_, keep1 hb9 ?_, keep1 hb9 ?_, keep1 hb9 ?_⟩ <;> go_keep) | (refine ⟨keep1 hb8 ?_, keep1 hb8 ?_, keep1 hb8 ?_, keep1 hb8 ?_⟩ <;> go_keep))
    (first
      | (go_at_call 17; refine (toVol_is (.agg #[.int .i64 a.nx, .slice Aa a.xs.length ca]) a sma _ (HAa7.out.next (bel0 w7).drew)).mono ?_; rintro e w8 ⟨za, rfl, frza, hb8⟩; obtain ⟨Aza, cza, eza, qza, kza⟩ := frza; subst eza)
      | (go_at_call 19; refine (eqVol_is (.agg #[.int .i64 a.nx, .slice Axa a.xs.length cxa]) (.agg #[.int .i64 a.nx, .slice Aza a.xs.length cza]) a sma _ ((Hxa7.out.next (bel0 w7).drew).next hb8) (show IsVolC w8 (.agg #[.int .i64 a.nx, .slice Aza a.xs.length cza]) a from ⟨Aza, cza, rfl, qza, kza⟩)).mono ?_; rintro e w9 ⟨rfl, hb9⟩))
  have B9 := belN (belN B7.drew hb8) hb9
  clear cX0_ cX1_ cKa0_ cKa1_
  go_wp2
  go_ret
  exact ⟨rfl, belN Bx B9⟩

set_option maxRecDepth 100000 in
theorem fnExactCurOpen_contract (H : Type) (enc : TypeId × Value → H) (W : World) (base : Nat) (args : Array Value) (ds gs : List (DataW H)) (before : List MemPlace)
    (hval : ∀ (j : Nat) t v, Tryz.f4.params[j]? = some t → args[j]? = some v → Value.okWide Tryz.prog W .any base t v)
    (hW : DataW.Whole enc Tryz.prog Tryz.f4.params.toList Rows.fnExactCurOpenSpec.vars false W args.toList ds gs before) (hL : laidMetH Tryz.prog Rows.fnExactCurOpenRow.laid W) :
    Calls Tryz.prog 4 args W fun e W' => ∃ v, e = .returned v ∧ Rows.fnExactCurOpenSpec.post enc Tryz.prog Tryz.f4 false true false false W args v W' := by
  have hW' := hW
  obtain ⟨p, q, hA0, hV, rfl, hfz, hnd⟩ := hW
  have hA : DataW.TrodAll enc Tryz.prog W 0 (fun _ => true) true Tryz.f4.params.toList args.toList ds p := hA0
  rw [Tryz.params4] at hA hval
  have hT := tab_of hL
  obtain ⟨_, _, _, g1, _, _, rfl, _⟩ := trodVars_one hV
  obtain ⟨v0, v1, d0, d1, p0, p1, rfl, rfl, rfl, h0, h1⟩ := trodAll_two hA
  obtain ⟨a, hza, hna, hIa⟩ := open_vol_is (hval 0 24 v0 rfl rfl) h0
  obtain ⟨s, rfl, rfl, rfl, ws⟩ := open_string Tryz.underlying9 (hval 1 9 v1 rfl rfl) h1
  clear hA0
  refine (law_fnExactCurOpen _ a hza hna s (Nat.le_trans ws (by unfold maxLen; omega)) W hT hIa).mono fun e W' ⟨he, hw⟩ => ?_
  subst he
  exact ⟨_, rfl, law_postD Tryz.laidOut (by kernel_rfl) rfl Tryz.underlying4 (Tryz.varsOk hT) rfl hW' hw⟩

theorem fnExactCurOpen_laid_met (os : Os) : laidMet Tryz.prog Rows.fnExactCurOpenRow.laid ((laidWorld os #[.agg #[.int .i64 0, .slice none 0 0], .string ByteArray.empty]).forCall (fun _ _ => 0) ⟨#[], #[.agg #[.int .i64 0, .slice none 0 0], .string ByteArray.empty], []⟩).memory :=
  laidMet_of_run' 8 (by kernel_rfl) (by kernel_rfl)
theorem fnExactCurOpen_reads (os : Os) {H : Type} (enc : TypeId × Value → H) : DataW.whole enc Tryz.prog ((laidWorld os #[.agg #[.int .i64 0, .slice none 0 0], .string ByteArray.empty]).forCall (fun _ _ => 0) ⟨#[], #[.agg #[.int .i64 0, .slice none 0 0], .string ByteArray.empty], []⟩).memory Tryz.f4.params.toList Rows.fnExactCurOpenSpec.vars false (#[.agg #[.int .i64 0, .slice none 0 0], .string ByteArray.empty] : Array Value).toList 8 = some ([.agg [.lit (.int .i64 0), .nil], .lit (.string [])], [Rows.laid_loop_example_g00773_impl_knownParts], [] ++ MemPlace.row ⟨0, 0, none⟩ 54) := by kernel_rfl

set_option maxRecDepth 100000 in
theorem fnExactCurOpen_lifted (os : Os) (started : os.Started) (H : Type) (enc : TypeId × Value → H) (F : Stop.Interp) :
    ReturnsInHanded {} Tryz.checked os 4 .any ((OpenSpec.ofChange Rows.fnExactCurOpenSpec).preRow enc Tryz.prog Tryz.f4 Rows.fnExactCurOpenRow.domain false Rows.fnExactCurOpenRow.laid) (((OpenSpec.ofChange Rows.fnExactCurOpenSpec).at F).post enc Tryz.prog Tryz.f4 false true false false) := by
  refine returnsInHanded_of_row (C := Tryz.checked) (s := OpenSpec.ofChange Rows.fnExactCurOpenSpec) Tryz.own started (by as_aux_lemma => kernel_rfl) Tryz.func4
    (witness_row_at (enc := enc) (C := Tryz.checked) false (laidWorld os #[.agg #[.int .i64 0, .slice none 0 0], .string ByteArray.empty]) #[.agg #[.int .i64 0, .slice none 0 0], .string ByteArray.empty] rfl (by as_aux_lemma => kernel_rfl) (by as_aux_lemma => kernel_rfl) (by as_aux_lemma => kernel_rfl)
      (OpenSpec.preRow_of_cond 8 (fnExactCurOpen_reads os enc) (by as_aux_lemma => kernel_rfl) (fun k hk => by cases hk) (by as_aux_lemma => kernel_rfl) (fnExactCurOpen_laid_met os))) ?_
  intro W base args ds gs before hval hW _ _ _ hL _ _
  exact fnExactCurOpen_contract H enc W base args ds gs before hval hW hL

set_option maxHeartbeats 4000000 in
theorem fnExactCurOpen_facts : joinedFacts Tryz.pinned.checked.prog 4 Tryz.f4 (OpenSpec.ofChange Rows.fnExactCurOpenSpec).bare Rows.fnExactCurOpenRow = true := by
  simp only [joinedFacts, Bool.and_eq_true]
  repeat' (refine And.intro ?_ ?_)
  all_goals (as_aux_lemma => kernel_rfl)
theorem fnExactCurOpen_said : Rows.FnExactCurOpenSaid :=
  OpenClaim.holds_of_cond 4 Tryz.f4 rfl rfl rfl rfl rfl rfl rfl ⟨rfl, rfl, rfl, rfl, rfl⟩ rfl rfl rfl rfl rfl (by as_aux_lemma => kernel_rfl) Tryz.func4 fnExactCurOpen_facts
    (of_decide_eq_true (by as_aux_lemma => kernel_rfl)) (by unfold Func.isWrapper; rw [if_neg (of_decide_eq_false (by as_aux_lemma => kernel_rfl))]; exact ⟨rfl, rfl⟩)
    (fun os started H enc _ F => by rw [OpenClaim.pre_eq_preRow]; exact fnExactCurOpen_lifted os started H enc F)

theorem fnExactCurOpen_plain (f : FuncId) (fn : Func) (hf : Tryz.pinned.checked.prog.funcNamed "loop.example/g00773/laws.FnExactCurOpen" = some f) (hfn : Tryz.pinned.checked.prog.funcs[f]? = some fn) :
    false = Tryz.pinned.checked.prog.looks [] ∧ ∀ (j : Nat) t, fn.params[j]? = some t → Tryz.pinned.checked.prog.wantsStandIn t = false := by
  obtain rfl : f = 4 := Option.some.inj ((show Tryz.prog.funcNamed "loop.example/g00773/laws.FnExactCurOpen" = some 4 by kernel_rfl).symm.trans hf) |>.symm
  obtain rfl : fn = Tryz.f4 := (Option.some.inj (Tryz.func4.symm.trans hfn)).symm
  refine ⟨by kernel_rfl, fun j t ht => ?_⟩
  rw [Tryz.params4] at ht
  have ht' := Array.mem_of_getElem? ht
  simp at ht'
  rcases ht' with rfl | rfl
  · exact (show Tryz.prog.wantsStandIn 24 = false by kernel_rfl)
  · exact (show Tryz.prog.wantsStandIn 9 = false by kernel_rfl)

theorem fnExactCurOpen_card : Rows.FnExactCurOpenCardSaid :=
  Claim7.holds_tied_plain_at .later [] _ _ _ _ fnExactCurOpen_said (fun _ h => by cases h) (by as_aux_lemma => kernel_rfl) (fun _ h => by cases h) fnExactCurOpen_row_tie rfl ⟨rfl, rfl⟩ (by as_aux_lemma => kernel_rfl) rfl fnExactCurOpen_plain (by as_aux_lemma => kernel_rfl)

end Go.Proofs.YthdbomkddpnhaaaGreatDoor
