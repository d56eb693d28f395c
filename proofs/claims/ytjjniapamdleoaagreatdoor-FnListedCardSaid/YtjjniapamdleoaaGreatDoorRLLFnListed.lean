/- The law FnListed: whatever bytes are handed in, the list of a directory has all its names, each once, in the order of its entries. The table of known signs is held as the program text lays it. -/
import Derived.Test.YtjjniapamdleoaaGreatDoorRLLstLaw
import Derived.Test.YtjjniapamdleoaaGreatDoorRLFrameC
import Derived.Test.YtjjniapamdleoaaGreatDoorRLFrameD
namespace Go.Proofs.YtjjniapamdleoaaGreatDoor
open Go Go.RowKit Go.ChangeShapes Go.WideShapes Go.ChangeAt Go.Joins
set_option maxHeartbeats 4000000
set_option maxRecDepth 100000

theorem fnListed_contract (H : Type) (enc : TypeId × Value -> H) (W : World) (base : Nat) (args : Array Value) (ds gs : List (DataW H)) (before : List MemPlace)
  (hval : ∀ (j : Nat) t v, Tryz.f3.params[j]? = some t -> args[j]? = some v -> Value.okWide Tryz.prog W .any base t v)
  (hW : DataW.Whole enc Tryz.prog Tryz.f3.params.toList Rows.fnListedSpec.vars false W args.toList ds gs before) (hL : laidMetH Tryz.prog Rows.fnListedRow.laid W) :
  Calls Tryz.prog 3 args W fun e W' => ∃ v, e = .returned v /\ Rows.fnListedSpec.post enc Tryz.prog Tryz.f3 false true false false W args v W' := by
 have hW' := hW
 obtain ⟨p, q, hA0, hV, rfl, hfz, hnd⟩ := hW
 have hA : DataW.TrodAll enc Tryz.prog W 0 (fun _ => true) true Tryz.f3.params.toList args.toList ds p := hA0
 rw [Tryz.params3] at hA hval
 have hT := tab_of hL
 obtain ⟨_, _, _, g1, _, _, rfl, _⟩ := trodVars_one hV
 obtain ⟨v0, d0, rfl, rfl, h0⟩ := trodAll_one hA
 obtain ⟨Ac, nc, cpc, bsc, rfl, hnc, hIc⟩ := open_bytes_is (hval 0 22 v0 rfl rfl) h0
 clear hA0
 refine (law_fnListed Ac nc cpc bsc W hT hIc).mono fun e W' ⟨he, hw⟩ => ?_
 subst he
 exact ⟨_, rfl, law_postD Tryz.laidOut (by kernel_rfl) rfl Tryz.underlying4 (Tryz.varsOk hT) rfl hW' hw⟩

theorem fnListed_laid_met (os : Os) : laidMet Tryz.prog Rows.fnListedRow.laid ((laidWorld os #[.slice none 0 0]).forCall (fun _ _ => 0) ⟨#[], #[.slice none 0 0], []⟩).memory :=
 laidMet_of_run' 8 (by kernel_rfl) (by kernel_rfl)
theorem fnListed_reads (os : Os) {H : Type} (enc : TypeId × Value -> H) : DataW.whole enc Tryz.prog ((laidWorld os #[.slice none 0 0]).forCall (fun _ _ => 0) ⟨#[], #[.slice none 0 0], []⟩).memory Tryz.f3.params.toList Rows.fnListedSpec.vars false (#[.slice none 0 0] : Array Value).toList 8 = some ([.nil], [Rows.laid_loop_example_g00773_impl_knownParts], [] ++ MemPlace.row ⟨0, 0, none⟩ 54) := by kernel_rfl

theorem fnListed_lifted (os : Os) (started : os.Started) (H : Type) (enc : TypeId × Value -> H) (F : Stop.Interp) :
  ReturnsInHanded {} Tryz.checked os 3 .any ((OpenSpec.ofChange Rows.fnListedSpec).preRow enc Tryz.prog Tryz.f3 Rows.fnListedRow.domain false Rows.fnListedRow.laid) (((OpenSpec.ofChange Rows.fnListedSpec).at F).post enc Tryz.prog Tryz.f3 false true false false) := by
 refine returnsInHanded_of_row (C := Tryz.checked) (s := OpenSpec.ofChange Rows.fnListedSpec) Tryz.own started (by as_aux_lemma => kernel_rfl) Tryz.func3
  (witness_row_at (enc := enc) (C := Tryz.checked) false (laidWorld os #[.slice none 0 0]) #[.slice none 0 0] rfl (by as_aux_lemma => kernel_rfl) (by as_aux_lemma => kernel_rfl) (by as_aux_lemma => kernel_rfl)
   (OpenSpec.preRow_of_cond 8 (fnListed_reads os enc) (by as_aux_lemma => kernel_rfl) (fun k hk => by cases hk) (by as_aux_lemma => kernel_rfl) (fnListed_laid_met os))) ?_
 intro W base args ds gs before hval hW _ _ _ hL _ _
 exact fnListed_contract H enc W base args ds gs before hval hW hL

theorem fnListed_facts : joinedFacts Tryz.pinned.checked.prog 3 Tryz.f3 (OpenSpec.ofChange Rows.fnListedSpec).bare Rows.fnListedRow = true := by
 simp only [joinedFacts, Bool.and_eq_true]
 repeat' (refine And.intro ?_ ?_)
 all_goals (as_aux_lemma => kernel_rfl)
theorem fnListed_said : Rows.FnListedSaid :=
 OpenClaim.holds_of_cond 3 Tryz.f3 rfl rfl rfl rfl rfl rfl rfl ⟨rfl, rfl, rfl, rfl, rfl⟩ rfl rfl rfl rfl rfl (by as_aux_lemma => kernel_rfl) Tryz.func3 fnListed_facts
  (of_decide_eq_true (by as_aux_lemma => kernel_rfl)) (by unfold Func.isWrapper; rw [if_neg (of_decide_eq_false (by as_aux_lemma => kernel_rfl))]; exact ⟨rfl, rfl⟩)
  (fun os started H enc _ F => by rw [OpenClaim.pre_eq_preRow]; exact fnListed_lifted os started H enc F)

theorem fnListed_plain (f : FuncId) (fn : Func) (hf : Tryz.pinned.checked.prog.funcNamed "loop.example/g00773/laws.FnListed" = some f) (hfn : Tryz.pinned.checked.prog.funcs[f]? = some fn) :
  false = Tryz.pinned.checked.prog.looks [] /\ ∀ (j : Nat) t, fn.params[j]? = some t -> Tryz.pinned.checked.prog.wantsStandIn t = false := by
 obtain rfl : f = 3 := Option.some.inj ((show Tryz.prog.funcNamed "loop.example/g00773/laws.FnListed" = some 3 by kernel_rfl).symm.trans hf) |>.symm
 obtain rfl : fn = Tryz.f3 := (Option.some.inj (Tryz.func3.symm.trans hfn)).symm
 refine ⟨by kernel_rfl, fun j t ht => ?_⟩
 rw [Tryz.params3] at ht
 obtain rfl : t = 22 := by simpa using Array.mem_of_getElem? ht
 exact (show Tryz.prog.wantsStandIn 22 = false by kernel_rfl)

theorem fnListed_card : Rows.FnListedCardSaid :=
 Claim7.holds_tied_plain_at .later [] _ _ _ _ fnListed_said (fun _ h => by cases h) (by as_aux_lemma => kernel_rfl) (fun _ h => by cases h) fnListed_row_tie rfl ⟨rfl, rfl⟩ (by as_aux_lemma => kernel_rfl) rfl fnListed_plain (by as_aux_lemma => kernel_rfl)

end Go.Proofs.YtjjniapamdleoaaGreatDoor
