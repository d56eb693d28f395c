/- The law of PgFind: what the program's PgFind gives is what the reference's gives. -/
import Derived.Test.YtdijbgdbpkeghaaPgFind2
import Derived.Test.YtdijbgdbpkeghaaLPagesOk
namespace Go.Proofs.Ytdijbgdbpkeghaa
open Go Go.RowKit Go.ChangeShapes Go.WideShapes Go.ChangeAt Go.Joins

set_option maxRecDepth 100000 in
set_option maxHeartbeats 1000000 in
theorem law_pgFind (A : Option Addr) (n c : Nat) (ps : List (List EntD)) (x y : Int) (hn : n ≤ 9223372036854775807) (hz : ∀ l ∈ ps, l.length ≤ 9223372036854775807 ∧ ∀ e ∈ l, e.s.size ≤ 9223372036854775807) (w : World) (hP : PagesAt w w.heap.size A n ps) :
    Calls Try.prog 5 #[.slice A n c, .int .i64 x, .int .i64 y] w fun e w' => e = .returned (.bool true) ∧ Below w.heap.size w w' := by
  have HP := Lib.hid hP
  have Hz := Lib.hid hz
  have hl := hP.len
  clear hP hz
  go_enter Try.func5, Try.ntmps5
  go_wp2_with fail
  refine (szEntSS_any A n c ps Hz.out hn 1048576 (by omega) (by omega) _ HP.out).mono ?_
  rintro e w1 ⟨r, rfl, hr, hb1⟩
  by_cases hneg : r < 0
  · go_wp2
    go_ret
    exact ⟨rfl, hb1⟩
  · have hsz : szSS ps ≤ 1048576 := by omega
    have hn1 : n ≤ 10000000 := by have := szSS_n ps; omega
    have hfl : ps.flatten.length ≤ 10000000 := by have := szSS_flat ps; omega
    have hrow := Lib.hid (show ∀ l ∈ ps, l.length ≤ 10000000 from fun l hl => by have := szSS_row ps l hl; have := szS_len l; omega)
    have HP1 := Lib.hid (HP.out.next hb1)
    clear hr Hz
    go_wp2_with fail
    refine (toEntSS_any A n c ps hrow.out hn1 _ HP1.out).mono ?_
    rintro e w2 ⟨rfl, ⟨gs, hown, hrows⟩, hb2⟩
    have HX := Lib.hid (show PagesAt w2 w2.heap.size _ n ps by rw [← hl] at hown ⊢; exact hrows.pages hown)
    have HP2 := Lib.hid (HP1.out.next hb2)
    have b2 := belN hb1 hb2
    clear hown hrows
    go_wp2_with fail
    refine (pgFind_spec _ n n ps x y hrow.out hfl hn1 _ HX.out).mono ?_
    rintro e w3 ⟨rfl, hb3⟩
    have HP3 := Lib.hid (HP2.out.next hb3)
    have b3 := belN b2 hb3
    obtain ⟨E, fb, hE⟩ : ∃ E fb, fndP ps x y = (E, fb) := ⟨_, _, rfl⟩
    have HE := Lib.hid hE
    rw [hE]
    simp only
    clear HX hE
    go_wp2_with fail
    have hq4 := Blk.new' w3 37 #[.int .i64 E.h, .int .i64 E.i, .string E.s, .int .i64 E.d] w3.heap.size
    have HP3' := Lib.hid (HP3.out.next (belA (bel0 w3) (.cells #[.int .i64 E.h, .int .i64 E.i, .string E.s, .int .i64 E.d] 37)))
    refine (toEntSS_any A n c ps hrow.out hn1 _ HP3'.out).mono ?_
    rintro e w4 ⟨rfl, ⟨gs4, hown, hrows⟩, hb4⟩
    have hsz4 : (w3.alloc (.cells #[.int .i64 E.h, .int .i64 E.i, .string E.s, .int .i64 E.d] 37)).heap.size = w3.heap.size + 1 := by simp
    rw [hsz4] at hown hrows
    have HX := Lib.hid (show PagesAt w4 w4.heap.size (some ⟨w3.heap.size + 1, 0, none⟩) n ps by rw [← hl] at hown ⊢; exact hrows.pages hown)
    clear hsz4
    have HP4 := Lib.hid (HP3'.out.next hb4)
    have hq4' := hq4.below hb4 (by simp)
    have b4 := belN (belA b3 _) hb4
    clear hown hrows hq4
    go_wp2_with fail
    refine (pgFind_impl _ n n ps x y hfl hn1 _ HX.out).mono ?_
    rintro e w5 ⟨rfl, hb5⟩
    rw [HE.out]
    simp only
    have HP5 := Lib.hid (HP4.out.next hb5)
    have HX5 := Lib.hid (HX.out.next hb5)
    have hq5 := hq4'.below hb5 hq4'.lt
    have b5 := belN b4 hb5
    have hlt5 := hq5.lt
    have c0 := hq5.get (x := .int .i64 E.h) 0 rfl
    have c1 := hq5.get (x := .int .i64 E.i) 1 rfl
    have c2 := hq5.get (x := .string E.s) 2 rfl
    have c3 := hq5.get (x := .int .i64 E.d) 3 rfl
    clear hq4' HX
    go_wp2_with fail
    refine (eqEnt_self E _).mono ?_
    rintro e w6 ⟨rfl, hb6⟩
    have hE5 := belA (bel0 w5) (.cells #[.int .i64 E.h, .int .i64 E.i, .string E.s, .int .i64 E.d] 37)
    have HP6 := Lib.hid ((HP5.out.next hE5).next hb6)
    have HX6 := Lib.hid ((HX5.out.next hE5).next hb6)
    have b6 := belN (belA b5 _) hb6
    clear c0 c1 c2 c3
    go_wp2_with fail
    refine (toEntSS_any A n c ps hrow.out hn1 _ HP6.out).mono ?_
    rintro e w7 ⟨rfl, ⟨gs7, hown, hrows⟩, hb7⟩
    have HY := Lib.hid (show PagesAt w7 w7.heap.size _ n ps by rw [← hl] at hown ⊢; exact hrows.pages hown)
    have HX7 := Lib.hid (HX6.out.next hb7)
    have b7 := belN b6 hb7
    clear hown hrows
    go_wp2_with fail
    refine (eqEntSS_self _ _ n n n ps hrow.out hn1 _ HX7.out HY.out).mono ?_
    rintro e w8 ⟨rfl, hb8⟩
    go_wp2
    go_ret
    exact ⟨rfl, belN b7 hb8⟩

set_option maxRecDepth 100000 in
theorem fnExactPgFind_lifted (os : Os) (started : os.Started) (H : Type) (enc : TypeId × Value → H) :
    ReturnsInHanded {} Try.checked os 5 .any (Rows.fnExactPgFindSpec.pre6 enc Try.prog Try.f5 Rows.fnExactPgFindRow.domain false) (Rows.fnExactPgFindSpec.post enc Try.prog Try.f5 false true false false) := by
  refine returnsInHanded_of_change (C := Try.checked) Try.own started (by kernel_rfl) Try.func5
    (ChangeSpec.witness6 (enc := enc) (C := Try.checked) false ⟨#[], #[.slice none 0 0, .int .i64 0, .int .i64 0], []⟩ 8 (by kernel_rfl) (by kernel_rfl) (by kernel_rfl) (by kernel_rfl)) ?_
  intro W base args ds gs before hval0 hW _ _
  have hval : ∀ (j : Nat) t v, Try.f5.params[j]? = some t → args[j]? = some v → Value.okWide Try.prog W .any base t v := hval0
  have hW' := hW
  obtain ⟨p, q, hA0, hV, rfl, hfz, hnd⟩ := hW
  have hA : DataW.TrodAll enc Try.prog W 0 (fun _ => true) true Try.f5.params.toList args.toList ds p := hA0
  rw [Try.params5] at hA hval
  obtain ⟨v0, v1, v2, d0, d1, d2, p0, p1, p2, rfl, rfl, rfl, h0, h1, h2⟩ := trodAll_three hA
  obtain ⟨rfl, rfl⟩ := trodVars_none hV
  obtain ⟨A, n, c, ps, rfl, hn, hP, hz⟩ := open_pages (hval 0 29 v0 rfl rfl) h0
  obtain ⟨x, rfl, rfl, rfl, wx⟩ := open_int Try.underlying3 (hval 1 3 v1 rfl rfl) h1
  obtain ⟨y, rfl, rfl, rfl, wy⟩ := open_int Try.underlying3 (hval 2 3 v2 rfl rfl) h2
  clear hA0 hval0
  refine (law_pgFind A n c ps x y hn hz W hP).mono fun e W' ⟨he, hw⟩ => ?_
  subst he
  exact ⟨_, rfl, law_post Try.laidOut (by kernel_rfl) rfl Try.underlying4 rfl rfl hW' hw⟩

theorem fnExactPgFind_holds : Rows.FnExactPgFindSaid :=
  OpenClaim.holds_of_wide 5 Try.f5 rfl rfl rfl rfl rfl rfl rfl ⟨rfl, rfl, rfl, rfl, rfl⟩ rfl rfl rfl rfl rfl (by kernel_rfl) Try.func5 (by kernel_rfl)
    (of_decide_eq_true (by kernel_rfl)) (by unfold Func.isWrapper; rw [if_neg (of_decide_eq_false (by kernel_rfl))]; exact ⟨rfl, rfl⟩)
    (fun os started H enc _ => fnExactPgFind_lifted os started H enc)

end Go.Proofs.Ytdijbgdbpkeghaa
