/- The law FnPages: whatever bytes are handed in, it answers true and leaves them as they were; with no condition ahead of it. -/
import Derived.Test.YtlnjgpekgnkakaaPgsLaw
import Derived.Test.YtlnjgpekgnkakaaFrame
import Derived.ChangeSlices
namespace Go.Proofs.Ytlnjgpekgnkakaa
open Go Go.RowKit Go.ChangeShapes Go.WideShapes Go.ChangeAt Go.Joins

theorem add_blk0 (ad : Addr) (k : Nat) : (ad.add k).block = ad.block := by unfold Addr.add; split <;> rfl
theorem Try.oneb : Try.prog.cellsOf 5 = 1 := by kernel_rfl
section
variable {H : Type} {enc : TypeId × Value → H} {w : World} {base : Nat} {spare : Nat → Bool} {held : Bool}
set_option maxRecDepth 100000 in
theorem open_bytes_is {r : Reach} {b0 : Nat} {v : Value} {d : DataW H} {p : List MemPlace} (hv : Value.okWide Try.prog w r b0 22 v) (h : DataW.Trod enc Try.prog w base spare held 22 v d p) :
    ∃ (A : Option Addr) (n cp : Nat) (bs : List UInt8), v = .slice A n cp ∧ n ≤ 9223372036854775807 ∧ Reads w w.heap.size 1 A n (B8 bs) := by
  obtain ⟨A2, n2, c2, rfl⟩ := okWide_slice Try.underlying22 hv
  obtain ⟨fuel, hf⟩ := h
  rcases open_ints Try.underlying22 Try.underlying5 Try.oneb hf with ⟨h1, _⟩ | ⟨a, len, cap, zs, h1, hb, hl, hm, hzl, _, hcell, hwf⟩
  · simp [Value.cells] at h1
    obtain ⟨rfl, rfl, rfl⟩ := h1
    exact ⟨none, 0, 0, [], rfl, by omega, Reads.none_⟩
  · simp [Value.cells] at h1
    obtain ⟨rfl, rfl, rfl⟩ := h1
    have hlz : n2 ≤ zs.length := by rw [hzl]; split <;> omega
    refine ⟨some a, n2, c2, (zs.take n2).map fun z => UInt8.ofNat z.toNat, rfl, by unfold maxLen at hm; omega, by simp [B8]; omega, fun hn => ⟨a, rfl, ?_, fun j u hu => ?_⟩⟩
    · have h0 := hcell 0 (by omega)
      have h1 := World.block_lt_of_cell? _ _ h0
      rwa [add_blk0] at h1
    · have hj : j < n2 := by
        have := (List.getElem?_eq_some_iff.1 hu).1
        simp [B8] at this; omega
      have hz := hwf (zs[j]'(by omega)) (List.getElem_mem _)
      unfold Lit.wf at hz
      rw [Bool.and_eq_true] at hz
      have z0 : 0 ≤ zs[j]'(by omega) := of_decide_eq_true hz.1
      have z1 : zs[j]'(by omega) ≤ 255 := of_decide_eq_true hz.2
      have hc := hcell j (by omega)
      rw [show zs.getD j 0 = zs[j]'(by omega) by simp [List.getD, show j < zs.length by omega]] at hc
      rw [hc, ← hu]
      simp only [B8, List.map_map, List.getElem?_map, List.getElem?_take_of_lt hj, List.getElem?_eq_getElem (show j < zs.length by omega), Option.map_some, Function.comp_def]
      rw [toNat_ofNat _ (by omega)]
      congr 2
      omega
end

set_option maxRecDepth 100000 in
theorem fnPages_lifted (os : Os) (started : os.Started) (H : Type) (enc : TypeId × Value → H) :
    ReturnsInHanded {} Try.checked os 3 .any (Rows.fnPagesSpec.pre6 enc Try.prog Try.f3 Rows.fnPagesRow.domain false) (Rows.fnPagesSpec.post enc Try.prog Try.f3 false true false false) := by
  refine returnsInHanded_of_change (C := Try.checked) Try.own started (by kernel_rfl) Try.func3
    (ChangeSpec.witness6 (enc := enc) (C := Try.checked) false ⟨#[], #[.slice none 0 0], []⟩ 8 (by kernel_rfl) (by kernel_rfl) (by kernel_rfl) (by kernel_rfl)) ?_
  intro W base args ds gs before hval0 hW _ _
  have hval : ∀ (j : Nat) t v, Try.f3.params[j]? = some t → args[j]? = some v → Value.okWide Try.prog W .any base t v := hval0
  have hW' := hW
  obtain ⟨p, q, hA0, hV, rfl, hfz, hnd⟩ := hW
  have hA : DataW.TrodAll enc Try.prog W 0 (fun _ => true) true Try.f3.params.toList args.toList ds p := hA0
  rw [Try.params3] at hA hval
  obtain ⟨v0, d0, rfl, rfl, h0⟩ := trodAll_one hA
  obtain ⟨rfl, rfl⟩ := trodVars_none hV
  obtain ⟨A, n, cp, bs, rfl, hn, hP⟩ := open_bytes_is (hval 0 22 v0 rfl rfl) h0
  clear hA0 hval0
  refine (law_fnPages A n cp bs W hP).mono fun e W' ⟨he, hw⟩ => ?_
  subst he
  exact ⟨_, rfl, law_post Try.laidOut (by kernel_rfl) rfl Try.underlying4 rfl rfl hW' hw⟩

theorem fnPages_holds : Rows.FnPagesSaid :=
  OpenClaim.holds_of_wide 3 Try.f3 rfl rfl rfl rfl rfl rfl rfl ⟨rfl, rfl, rfl, rfl, rfl⟩ rfl rfl rfl rfl rfl (by kernel_rfl) Try.func3 (by kernel_rfl)
    (of_decide_eq_true (by kernel_rfl)) (by unfold Func.isWrapper; rw [if_neg (of_decide_eq_false (by kernel_rfl))]; exact ⟨rfl, rfl⟩)
    (fun os started H enc _ => fnPages_lifted os started H enc)

end Go.Proofs.Ytlnjgpekgnkakaa
