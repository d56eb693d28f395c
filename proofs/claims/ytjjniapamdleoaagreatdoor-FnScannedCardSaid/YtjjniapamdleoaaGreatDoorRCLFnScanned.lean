/- The law FnScanned: whatever bytes are handed in, who goes through a directory while others make and take away names in it meets each name that stays just once, and none that never was. The table of known signs is held as the program text lays it. -/
import Derived.Test.YtjjniapamdleoaaGreatDoorRCScLaw
import Derived.Test.YtjjniapamdleoaaGreatDoorRCFrameC
import Derived.Test.YtjjniapamdleoaaGreatDoorRCFrameD
namespace Go.Proofs.YtjjniapamdleoaaGreatDoor
open Go Go.RowKit Go.ChangeShapes Go.WideShapes Go.ChangeAt Go.Joins
set_option maxHeartbeats 4000000
set_option maxRecDepth 100000

theorem fnScanned_contract (H : Type) (enc : TypeId × Value -> H) (W : World) (base : Nat) (args : Array Value) (ds gs : List (DataW H)) (before : List MemPlace)
  (hval : ∀ (j : Nat) t v, Tryz.f7.params[j]? = some t -> args[j]? = some v -> Value.okWide Tryz.prog W .any base t v)
  (hW : DataW.Whole enc Tryz.prog Tryz.f7.params.toList Rows.fnScannedSpec.vars false W args.toList ds gs before) (hL : laidMetH Tryz.prog Rows.fnScannedRow.laid W) :
  Calls Tryz.prog 7 args W fun e W' => ∃ v, e = .returned v /\ Rows.fnScannedSpec.post enc Tryz.prog Tryz.f7 false true false false W args v W' := by
 have hW' := hW
 obtain ⟨p, q, hA0, hV, rfl, hfz, hnd⟩ := hW
 have hA : DataW.TrodAll enc Tryz.prog W 0 (fun _ => true) true Tryz.f7.params.toList args.toList ds p := hA0
 rw [Tryz.params7] at hA hval
 have hT := tab_of hL
 obtain ⟨_, _, _, g1, _, _, rfl, _⟩ := trodVars_one hV
 obtain ⟨v0, d0, rfl, rfl, h0⟩ := trodAll_one hA
 obtain ⟨Ac, nc, cpc, bsc, rfl, hnc, hIc⟩ := open_bytes_is (hval 0 22 v0 rfl rfl) h0
 clear hA0
 refine (law_fnScanned Ac nc cpc bsc W hT hIc).mono fun e W' ⟨he, hw⟩ => ?_
 subst he
 exact ⟨_, rfl, law_postD Tryz.laidOut (by kernel_rfl) rfl Tryz.underlying4 (Tryz.varsOk hT) rfl hW' hw⟩

theorem fnScanned_laid_met (os : Os) : laidMet Tryz.prog Rows.fnScannedRow.laid ((laidWorld os #[.slice none 0 0]).forCall (fun _ _ => 0) ⟨#[], #[.slice none 0 0], []⟩).memory :=
 laidMet_of_run' 8 (by kernel_rfl) (by kernel_rfl)
theorem fnScanned_reads (os : Os) {H : Type} (enc : TypeId × Value -> H) : DataW.whole enc Tryz.prog ((laidWorld os #[.slice none 0 0]).forCall (fun _ _ => 0) ⟨#[], #[.slice none 0 0], []⟩).memory Tryz.f7.params.toList Rows.fnScannedSpec.vars false (#[.slice none 0 0] : Array Value).toList 8 = some ([.nil], [Rows.laid_loop_example_g00773_impl_knownParts], [] ++ MemPlace.row ⟨0, 0, none⟩ 54) := by kernel_rfl

theorem fnScanned_lifted (os : Os) (started : os.Started) (H : Type) (enc : TypeId × Value -> H) (F : Stop.Interp) :
  ReturnsInHanded {} Tryz.checked os 7 .any ((OpenSpec.ofChange Rows.fnScannedSpec).preRow enc Tryz.prog Tryz.f7 Rows.fnScannedRow.domain false Rows.fnScannedRow.laid) (((OpenSpec.ofChange Rows.fnScannedSpec).at F).post enc Tryz.prog Tryz.f7 false true false false) := by
 refine returnsInHanded_of_row (C := Tryz.checked) (s := OpenSpec.ofChange Rows.fnScannedSpec) Tryz.own started (by as_aux_lemma => kernel_rfl) Tryz.func7
  (witness_row_at (enc := enc) (C := Tryz.checked) false (laidWorld os #[.slice none 0 0]) #[.slice none 0 0] rfl (by as_aux_lemma => kernel_rfl) (by as_aux_lemma => kernel_rfl) (by as_aux_lemma => kernel_rfl)
   (OpenSpec.preRow_of_cond 8 (fnScanned_reads os enc) (by as_aux_lemma => kernel_rfl) (fun k hk => by cases hk) (by as_aux_lemma => kernel_rfl) (fnScanned_laid_met os))) ?_
 intro W base args ds gs before hval hW _ _ _ hL _ _
 exact fnScanned_contract H enc W base args ds gs before hval hW hL

theorem fnScanned_facts : joinedFacts Tryz.pinned.checked.prog 7 Tryz.f7 (OpenSpec.ofChange Rows.fnScannedSpec).bare Rows.fnScannedRow = true := by
 simp only [joinedFacts, Bool.and_eq_true]
 repeat' (refine And.intro ?_ ?_)
 all_goals (as_aux_lemma => kernel_rfl)
theorem fnScanned_said : Rows.FnScannedSaid :=
 OpenClaim.holds_of_cond 7 Tryz.f7 rfl rfl rfl rfl rfl rfl rfl ⟨rfl, rfl, rfl, rfl, rfl⟩ rfl rfl rfl rfl rfl (by as_aux_lemma => kernel_rfl) Tryz.func7 fnScanned_facts
  (of_decide_eq_true (by as_aux_lemma => kernel_rfl)) (by unfold Func.isWrapper; rw [if_neg (of_decide_eq_false (by as_aux_lemma => kernel_rfl))]; exact ⟨rfl, rfl⟩)
  (fun os started H enc _ F => by rw [OpenClaim.pre_eq_preRow]; exact fnScanned_lifted os started H enc F)

theorem fnScanned_plain (f : FuncId) (fn : Func) (hf : Tryz.pinned.checked.prog.funcNamed "loop.example/g00773/laws.FnScanned" = some f) (hfn : Tryz.pinned.checked.prog.funcs[f]? = some fn) :
  false = Tryz.pinned.checked.prog.looks [] /\ ∀ (j : Nat) t, fn.params[j]? = some t -> Tryz.pinned.checked.prog.wantsStandIn t = false := by
 obtain rfl : f = 7 := Option.some.inj ((show Tryz.prog.funcNamed "loop.example/g00773/laws.FnScanned" = some 7 by kernel_rfl).symm.trans hf) |>.symm
 obtain rfl : fn = Tryz.f7 := (Option.some.inj (Tryz.func7.symm.trans hfn)).symm
 refine ⟨by kernel_rfl, fun j t ht => ?_⟩
 rw [Tryz.params7] at ht
 obtain rfl : t = 22 := by simpa using Array.mem_of_getElem? ht
 exact (show Tryz.prog.wantsStandIn 22 = false by kernel_rfl)

theorem fnScanned_card : Rows.FnScannedCardSaid :=
 Claim7.holds_tied_plain_at .later [] _ _ _ _ fnScanned_said (fun _ h => by cases h) (by as_aux_lemma => kernel_rfl) (fun _ h => by cases h) fnScanned_row_tie rfl ⟨rfl, rfl⟩ (by as_aux_lemma => kernel_rfl) rfl fnScanned_plain (by as_aux_lemma => kernel_rfl)

end Go.Proofs.YtjjniapamdleoaaGreatDoor
