/- The law of PagesOk: what the program's PagesOk says is what the reference's says. -/
import Derived.Test.YtdijbgdbpkeghaaPgOk2
import Derived.Test.YtdijbgdbpkeghaaFramePg
namespace Go.Proofs.Ytdijbgdbpkeghaa
open Go Go.RowKit Go.ChangeShapes Go.WideShapes Go.ChangeAt Go.Joins

theorem PagesAt.next {w w' : World} {A : Option Addr} {n : Nat} {ps : List (List EntD)} (h : PagesAt w w.heap.size A n ps) (hb : Below w.heap.size w w') : PagesAt w' w'.heap.size A n ps := (h.below hb).more hb.size
theorem szSS_n (ps : List (List EntD)) : ps.length ≤ szSS ps := by unfold szSS; omega

set_option maxRecDepth 100000 in
set_option maxHeartbeats 2000000 in
theorem law_pagesOk (A : Option Addr) (n c : Nat) (ps : List (List EntD)) (hn : n ≤ 9223372036854775807) (hz : ∀ l ∈ ps, l.length ≤ 9223372036854775807 ∧ ∀ e ∈ l, e.s.size ≤ 9223372036854775807) (w : World) (hP : PagesAt w w.heap.size A n ps) :
    Calls Try.prog 4 #[.slice A n c] w fun e w' => e = .returned (.bool true) ∧ Below w.heap.size w w' := by
  have HP := Lib.hid hP
  have Hz := Lib.hid hz
  have hl := hP.len
  clear hP hz
  go_enter Try.func4, Try.ntmps4
  go_wp2_with fail
  refine (szEntSS_any A n c ps Hz.out hn 1048576 (by omega) (by omega) _ HP.out).mono ?_
  rintro e w1 ⟨r, rfl, hr, hb1⟩
  by_cases hneg : r < 0
  · go_wp2
    go_ret
    exact ⟨rfl, hb1⟩
  · have hsz : szSS ps ≤ 1048576 := by omega
    have hn1 : n ≤ 10000000 := by have := szSS_n ps; omega
    have hfl : ps.flatten.length ≤ 10000000 := by have := szSS_flat ps; omega
    have hrow := Lib.hid (show ∀ l ∈ ps, l.length ≤ 10000000 from fun l hl => by have := szSS_row ps l hl; have := szS_len l; omega)
    have HP1 := Lib.hid (HP.out.next hb1)
    clear hr Hz
    go_wp2_with fail
    refine (toEntSS_any A n c ps hrow.out hn1 _ HP1.out).mono ?_
    rintro e w2 ⟨rfl, ⟨gs, hown, hrows⟩, hb2⟩
    have HX := Lib.hid (show PagesAt w2 w2.heap.size _ n ps by rw [← hl] at hown ⊢; exact hrows.pages hown)
    have HP2 := Lib.hid (HP1.out.next hb2)
    have b2 := belN hb1 hb2
    clear hown hrows
    go_wp2_with fail
    refine (pagesOk_spec _ n n ps hfl hn1 _ HX.out).mono ?_
    rintro e w3 ⟨rfl, hb3⟩
    have HP3 := Lib.hid (HP2.out.next hb3)
    have b3 := belN b2 hb3
    clear HX
    go_wp2_with fail
    refine (toEntSS_any A n c ps hrow.out hn1 _ HP3.out).mono ?_
    rintro e w4 ⟨rfl, ⟨gs4, hown, hrows⟩, hb4⟩
    have HX := Lib.hid (show PagesAt w4 w4.heap.size _ n ps by rw [← hl] at hown ⊢; exact hrows.pages hown)
    have HP4 := Lib.hid (HP3.out.next hb4)
    have b4 := belN b3 hb4
    clear hown hrows
    go_wp2_with fail
    refine (pagesOk_impl _ n n ps hfl hn1 _ HX.out).mono ?_
    rintro e w5 ⟨rfl, hb5⟩
    have HP5 := Lib.hid (HP4.out.next hb5)
    have HX5 := Lib.hid (HX.out.next hb5)
    have b5 := belN b4 hb5
    go_wp2_with fail
    refine (toEntSS_any A n c ps hrow.out hn1 _ HP5.out).mono ?_
    rintro e w6 ⟨rfl, ⟨gs6, hown, hrows⟩, hb6⟩
    have HY := Lib.hid (show PagesAt w6 w6.heap.size _ n ps by rw [← hl] at hown ⊢; exact hrows.pages hown)
    have HX6 := Lib.hid (HX5.out.next hb6)
    have b6 := belN b5 hb6
    clear hown hrows
    go_wp2_with fail
    refine (eqEntSS_self _ _ n n n ps hrow.out hn1 _ HX6.out HY.out).mono ?_
    rintro e w7 ⟨rfl, hb7⟩
    go_wp2
    go_ret
    exact ⟨rfl, belN b6 hb7⟩

set_option maxRecDepth 100000 in
theorem fnExactPagesOk_lifted (os : Os) (started : os.Started) (H : Type) (enc : TypeId × Value → H) :
    ReturnsInHanded {} Try.checked os 4 .any (Rows.fnExactPagesOkSpec.pre6 enc Try.prog Try.f4 Rows.fnExactPagesOkRow.domain false) (Rows.fnExactPagesOkSpec.post enc Try.prog Try.f4 false true false false) := by
  refine returnsInHanded_of_change (C := Try.checked) Try.own started (by kernel_rfl) Try.func4
    (ChangeSpec.witness6 (enc := enc) (C := Try.checked) false ⟨#[], #[.slice none 0 0], []⟩ 8 (by kernel_rfl) (by kernel_rfl) (by kernel_rfl) (by kernel_rfl)) ?_
  intro W base args ds gs before hval0 hW _ _
  have hval : ∀ (j : Nat) t v, Try.f4.params[j]? = some t → args[j]? = some v → Value.okWide Try.prog W .any base t v := hval0
  have hW' := hW
  obtain ⟨p, q, hA0, hV, rfl, hfz, hnd⟩ := hW
  have hA : DataW.TrodAll enc Try.prog W 0 (fun _ => true) true Try.f4.params.toList args.toList ds p := hA0
  rw [Try.params4] at hA hval
  obtain ⟨v0, d0, rfl, rfl, h0⟩ := trodAll_one hA
  obtain ⟨rfl, rfl⟩ := trodVars_none hV
  obtain ⟨A, n, c, ps, rfl, hn, hP, hz⟩ := open_pages (hval 0 29 v0 rfl rfl) h0
  clear hA0 hval0
  refine (law_pagesOk A n c ps hn hz W hP).mono fun e W' ⟨he, hw⟩ => ?_
  subst he
  exact ⟨_, rfl, law_post Try.laidOut (by kernel_rfl) rfl Try.underlying4 rfl rfl hW' hw⟩

theorem fnExactPagesOk_holds : Rows.FnExactPagesOkSaid :=
  OpenClaim.holds_of_wide 4 Try.f4 rfl rfl rfl rfl rfl rfl rfl ⟨rfl, rfl, rfl, rfl, rfl⟩ rfl rfl rfl rfl rfl (by kernel_rfl) Try.func4 (by kernel_rfl)
    (of_decide_eq_true (by kernel_rfl)) (by unfold Func.isWrapper; rw [if_neg (of_decide_eq_false (by kernel_rfl))]; exact ⟨rfl, rfl⟩)
    (fun os started H enc _ => fnExactPagesOk_lifted os started H enc)

end Go.Proofs.Ytdijbgdbpkeghaa
