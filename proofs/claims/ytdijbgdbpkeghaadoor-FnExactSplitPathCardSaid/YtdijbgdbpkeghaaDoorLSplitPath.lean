/- The law of SplitPath: what the program's SplitPath gives is what the reference's gives, in new memory. The table of known signs is held as the program's text lays it. -/
import Derived.Test.YtdijbgdbpkeghaaDoorPath
import Derived.Test.YtdijbgdbpkeghaaDoorFrameD
namespace Go.Proofs.YtdijbgdbpkeghaaDoor
open Go Go.RowKit Go.ChangeShapes Go.WideShapes Go.ChangeAt Go.Joins
open Go.ChangeMaps (open_string)

theorem own_ne {w w' : World} {b e' : Nat} {e : TypeId} {s s' n n' : Nat} {v v' : Value} {xs xs' : List Value} (h : w.ownsRow b e s v n xs) (h' : w'.ownsRow w.heap.size e' s' v' n' xs') : v.ownBlock = none ∨ v.ownBlock ≠ v'.ownBlock := by
  cases hv : v.ownBlock with
  | none => exact .inl rfl
  | some k =>
    refine .inr fun e => ?_
    have h1 := h.lt k hv
    have h2 := h'.lt k e.symm
    omega
theorem spB_len (s : ByteArray) (hs : s.size ≤ 2000000) : (spB s).1.length ≤ 10000000 := by
  unfold spB
  split
  · split
    · have h1 := foldl_len (splitL 47 s.data.toList) []
      have h2 := splitL_len 47 s.data.toList
      rw [size_list] at h2
      simp [pathL] at h1 ⊢; omega
    · simp
  · simp

set_option maxRecDepth 100000 in
set_option maxHeartbeats 2000000 in
theorem law_splitPath (s : ByteArray) (hs : s.size ≤ 9223372036854775807) (w : World) (hT : Tab w) :
    Calls Tryd.prog 5 #[.string s] w fun e w' => e = .returned (.bool true) ∧ Below w.heap.size w w' := by
  have HT := Lib.hid hT
  clear hT
  by_cases hbig : s.size ≤ 1048576
  · clear hs
    have hlen := spB_len s (by omega)
    go_enter Tryd.func5, Tryd.ntmps5
    go_wp2_with fail
    refine (splitPath_spec s (by omega) _).mono ?_
    rintro e w1 ⟨hb1, v0, rfl, hown0⟩
    have HT1 := Lib.hid (HT.out.bl hb1)
    go_wp2_with fail
    refine (splitPath_impl s (by omega) _ HT1.out).mono ?_
    rintro e w2 ⟨hb2, v1, rfl, hown1⟩
    have HT2 := Lib.hid (HT1.out.bl hb2)
    have hown02 := own_below hown0 hb2 (Nat.le_refl _)
    have hne := own_ne hown0 hown1
    obtain ⟨A0, c0, hv0, _, _, hr0⟩ := own_vals hown02
    obtain ⟨A1, c1, hv1, _, _, hr1⟩ := own_vals hown1
    subst hv0 hv1
    have Hown0 := Lib.hid hown02
    have Hown1 := Lib.hid hown1
    have Hne := Lib.hid hne
    have b2 := belN (belN (bel0 w) hb1) hb2
    clear hown0 hown02 hown1 hne
    obtain ⟨L, ok, hL⟩ : ∃ L ok, spB s = (L, ok) := ⟨_, _, rfl⟩
    rw [hL] at hr0 hr1 hlen Hown0 Hown1 Hne ⊢
    simp only at hr0 hr1 hlen Hown0 Hown1 Hne ⊢
    have HL := Lib.hid hL
    clear hL
    go_wp2_with fail
    refine (eqStringS_self _ _ _ _ _ _ hlen _ hr1 hr0).mono ?_
    rintro e w3 ⟨rfl, hb3⟩
    have own03 := own_below Hown0.out hb3 (Nat.le_refl _)
    have own13 := own_below Hown1.out hb3 (Nat.le_refl _)
    have HT3 := Lib.hid (HT2.out.bl hb3)
    have b3 := belN b2 hb3
    clear hr0 hr1
    go_wp2_with fail
    refine (markStringS_any _ _ _ _ 1 (by omega) (by omega) hlen _ own13).mono ?_
    rintro e w4 ⟨rfl, own14, hg4⟩
    have own04 := own03.kept hg4 Hne.out
    have b4 := b3.grown hg4 b3.size (fun k hk => Nat.le_trans hb1.size (own13.lt k hk).1)
    have HT4 := Lib.hid (HT.out.below b4 HT.out.pos)
    have hr14 := Lib.hid (own_vals own14)
    have Hown14 := Lib.hid own14
    have Hown04 := Lib.hid own04
    clear own14 own04 own03 own13 hg4
    go_wp2_with fail
    refine (heldStringS_any _ _ _ 1 (by omega) (by omega) hlen _ ?_).mono ?_
    · obtain ⟨A, c, he, _, _, h⟩ := hr14.out
      simp only [Value.slice.injEq] at he
      obtain ⟨rfl, _, _⟩ := he
      exact h
    rintro e w5 ⟨rfl, hb5⟩
    have own15 := own_below Hown14.out hb5 (Nat.le_refl _)
    have own05 := own_below Hown04.out hb5 (Nat.le_refl _)
    have HT5 := Lib.hid (HT4.out.bl hb5)
    have b5 := belN b4 hb5
    have Hown15 := Lib.hid own15
    have Hown05 := Lib.hid own05
    clear own15 own05
    go_wp2_with fail
    refine (splitPath_impl s (by omega) _ HT5.out).mono ?_
    rintro e w6 ⟨hb6, v6, rfl, hown6⟩
    have own16 := own_below Hown15.out hb6 (Nat.le_refl _)
    have own06 := own_below Hown05.out hb6 (Nat.le_refl _)
    have b6 := belN b5 hb6
    rw [HL.out] at hown6 ⊢
    simp only at hown6 ⊢
    obtain ⟨A6, c6, hv6, _, _, hr6⟩ := own_vals hown6
    subst hv6
    have hr06 : Reads w6 w6.heap.size 1 A0 L.length (SS L) := by
      obtain ⟨A, c, he, _, _, h⟩ := own_vals own06
      simp only [Value.slice.injEq] at he
      obtain ⟨rfl, _, _⟩ := he
      exact h
    have Hown16 := Lib.hid own16
    clear own16 own06 hown6
    go_wp2_with fail
    refine (eqStringS_self _ _ _ _ _ _ hlen _ hr6 hr06).mono ?_
    rintro e w7 ⟨rfl, hb7⟩
    have own17 := own_below Hown16.out hb7 (Nat.le_refl _)
    have b7 := belN b6 hb7
    have hr17 : Reads w7 w7.heap.size 1 A1 L.length (SS (marks 1 L.length)) := by
      obtain ⟨A, c, he, _, _, h⟩ := own_vals own17
      simp only [Value.slice.injEq] at he
      obtain ⟨rfl, _, _⟩ := he
      exact h
    clear hr6 hr06 own17
    go_wp2_with fail
    refine (heldStringS_any _ _ _ 1 (by omega) (by omega) hlen _ hr17).mono ?_
    rintro e w8 ⟨rfl, hb8⟩
    clear hr17
    go_wp2
    go_ret
    exact ⟨rfl, belN b7 hb8⟩
  · go_enter Tryd.func5, Tryd.ntmps5
    go_wp2
    go_ret
    exact ⟨rfl, bel0 w⟩

theorem fnExactSplitPath_contract (H : Type) (enc : TypeId × Value → H) (W : World) (base : Nat) (args : Array Value) (ds gs : List (DataW H)) (before : List MemPlace)
    (hval : ∀ (j : Nat) t v, Tryd.f5.params[j]? = some t → args[j]? = some v → Value.okWide Tryd.prog W .any base t v)
    (hW : DataW.Whole enc Tryd.prog Tryd.f5.params.toList Rows.fnExactSplitPathSpec.vars false W args.toList ds gs before) (hL : laidMetH Tryd.prog Rows.fnExactSplitPathRow.laid W) :
    Calls Tryd.prog 5 args W fun e W' => ∃ v, e = .returned v ∧ Rows.fnExactSplitPathSpec.post enc Tryd.prog Tryd.f5 false true false false W args v W' := by
  have hW' := hW
  obtain ⟨p, q, hA0, hV, rfl, hfz, hnd⟩ := hW
  have hA : DataW.TrodAll enc Tryd.prog W 0 (fun _ => true) true Tryd.f5.params.toList args.toList ds p := hA0
  rw [Tryd.params5] at hA hval
  have hT := tab_of hL
  obtain ⟨_, _, _, g1, _, _, rfl, _⟩ := trodVars_one hV
  obtain ⟨v0, d0, rfl, rfl, h0⟩ := trodAll_one hA
  obtain ⟨s, rfl, rfl, rfl, ws⟩ := open_string Tryd.underlying9 (hval 0 9 v0 rfl rfl) h0
  clear hA0
  refine (law_splitPath s (Nat.le_trans ws (by unfold maxLen; omega)) W hT).mono fun e W' ⟨he, hw⟩ => ?_
  subst he
  exact ⟨_, rfl, law_postD Tryd.laidOut (by kernel_rfl) rfl Tryd.underlying4 (Tryd.varsOk hT) rfl hW' hw⟩

theorem fnExactSplitPath_laid_met (os : Os) : laidMet Tryd.prog Rows.fnExactSplitPathRow.laid ((laidWorld os #[.string ByteArray.empty]).forCall (fun _ _ => 0) ⟨#[], #[.string ByteArray.empty], []⟩).memory :=
  laidMet_of_run' 8 (by kernel_rfl) (by kernel_rfl)
theorem fnExactSplitPath_reads (os : Os) {H : Type} (enc : TypeId × Value → H) : DataW.whole enc Tryd.prog ((laidWorld os #[.string ByteArray.empty]).forCall (fun _ _ => 0) ⟨#[], #[.string ByteArray.empty], []⟩).memory Tryd.f5.params.toList Rows.fnExactSplitPathSpec.vars false (#[.string ByteArray.empty] : Array Value).toList 8 = some ([.lit (.string [])], [Rows.laid_loop_example_g00773_impl_knownParts], [] ++ MemPlace.row ⟨0, 0, none⟩ 54) := by kernel_rfl

set_option maxRecDepth 100000 in
theorem fnExactSplitPath_lifted (os : Os) (started : os.Started) (H : Type) (enc : TypeId × Value → H) (F : Stop.Interp) :
    ReturnsInHanded {} Tryd.checked os 5 .any ((OpenSpec.ofChange Rows.fnExactSplitPathSpec).preRow enc Tryd.prog Tryd.f5 Rows.fnExactSplitPathRow.domain false Rows.fnExactSplitPathRow.laid) (((OpenSpec.ofChange Rows.fnExactSplitPathSpec).at F).post enc Tryd.prog Tryd.f5 false true false false) := by
  refine returnsInHanded_of_row (C := Tryd.checked) (s := OpenSpec.ofChange Rows.fnExactSplitPathSpec) Tryd.own started (by kernel_rfl) Tryd.func5
    (witness_row_at (enc := enc) (C := Tryd.checked) false (laidWorld os #[.string ByteArray.empty]) #[.string ByteArray.empty] rfl (by kernel_rfl) (by kernel_rfl) (by kernel_rfl)
      (OpenSpec.preRow_of_cond 8 (fnExactSplitPath_reads os enc) (by kernel_rfl) (fun k hk => by cases hk) (by kernel_rfl) (fnExactSplitPath_laid_met os))) ?_
  intro W base args ds gs before hval hW _ _ _ hL _ _
  exact fnExactSplitPath_contract H enc W base args ds gs before hval hW hL

theorem fnExactSplitPath_said : Rows.FnExactSplitPathSaid :=
  OpenClaim.holds_of_cond 5 Tryd.f5 rfl rfl rfl rfl rfl rfl rfl ⟨rfl, rfl, rfl, rfl, rfl⟩ rfl rfl rfl rfl rfl (by kernel_rfl) Tryd.func5 (by kernel_rfl)
    (of_decide_eq_true (by kernel_rfl)) (by unfold Func.isWrapper; rw [if_neg (of_decide_eq_false (by kernel_rfl))]; exact ⟨rfl, rfl⟩)
    (fun os started H enc _ F => by rw [OpenClaim.pre_eq_preRow]; exact fnExactSplitPath_lifted os started H enc F)

theorem fnExactSplitPath_plain (f : FuncId) (fn : Func) (hf : Tryd.pinned.checked.prog.funcNamed "loop.example/g00773/laws.FnExactSplitPath" = some f) (hfn : Tryd.pinned.checked.prog.funcs[f]? = some fn) :
    false = Tryd.pinned.checked.prog.looks [] ∧ ∀ (j : Nat) t, fn.params[j]? = some t → Tryd.pinned.checked.prog.wantsStandIn t = false := by
  obtain rfl : f = 5 := Option.some.inj ((show Tryd.prog.funcNamed "loop.example/g00773/laws.FnExactSplitPath" = some 5 by kernel_rfl).symm.trans hf) |>.symm
  obtain rfl : fn = Tryd.f5 := (Option.some.inj (Tryd.func5.symm.trans hfn)).symm
  refine ⟨by kernel_rfl, fun j t ht => ?_⟩
  rw [Tryd.params5] at ht
  obtain rfl : t = 9 := by simpa using Array.mem_of_getElem? ht
  exact (show Tryd.prog.wantsStandIn 9 = false by kernel_rfl)

theorem fnExactSplitPath_card : Rows.FnExactSplitPathCardSaid :=
  Claim7.holds_tied_plain_at .later [] _ _ _ _ fnExactSplitPath_said (fun _ h => by cases h) (by kernel_rfl) (fun _ h => by cases h) fnExactSplitPath_row_tie rfl ⟨rfl, rfl⟩ (by kernel_rfl) rfl fnExactSplitPath_plain (by kernel_rfl)

end Go.Proofs.YtdijbgdbpkeghaaDoor
