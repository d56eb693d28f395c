/- The law of PgList: what the program's PgList gives is what the reference's gives, in new memory. -/
import Derived.Test.YtdijbgdbpkeghaaPgFind
import Derived.Test.YtdijbgdbpkeghaaLPagesOk
import Derived.Test.YtdijbgdbpkeghaaMarks
namespace Go.Proofs.Ytdijbgdbpkeghaa
open Go Go.RowKit Go.ChangeShapes Go.WideShapes Go.ChangeAt Go.Joins

theorem own_apart {w w' : World} {b e' : Nat} {e : TypeId} {s s' n n' : Nat} {v v' : Value} {xs xs' : List Value} (h : w.ownsRow b e s v n xs) (h' : w'.ownsRow w.heap.size e' s' v' n' xs') : v.ownBlock = none ∨ v.ownBlock ≠ v'.ownBlock := by
  cases hv : v.ownBlock with
  | none => exact .inl rfl
  | some k =>
    refine .inr fun e => ?_
    have h1 := h.lt k hv
    have h2 := h'.lt k e.symm
    omega
theorem own_reads {w : World} {b : Nat} {e : TypeId} {s n c : Nat} {A : Option Addr} {xs : List Value} (h : w.ownsRow b e s (.slice A n c) n xs) : Reads w w.heap.size s A n xs := by
  obtain ⟨A', c', he, _, _, h⟩ := own_vals h
  simp only [Value.slice.injEq] at he
  obtain ⟨rfl, _, _⟩ := he
  exact h

set_option maxRecDepth 100000 in
set_option maxHeartbeats 1000000 in
theorem markEntS_v (base : Nat) (A : Option Addr) (n c : Nat) (xs : List Value) (k : Int) (hk0 : 0 ≤ k) (hk : k ≤ 100000000) (hn : n ≤ 10000000) (w : World) (hown : w.ownsRow base 37 4 (.slice A n c) n xs) :
    Calls Try.prog 34 #[.slice A n c, .int .i64 k] w fun e w' => e = .returned (.int .i64 (k + 4 * (n : Int))) ∧ w'.ownsRow base 37 4 (.slice A n c) n (ES (marksD k n)) ∧ w.grownBy w' (Value.slice A n c).ownBlock := by
  rcases Nat.eq_zero_or_pos n with h0 | h0
  · subst h0
    have hx : xs = [] := List.eq_nil_of_length_eq_zero (by have := hown.1; omega)
    subst hx
    have Hown := Lib.hid hown
    clear hown
    go_enter Try.func34, Try.ntmps34
    go_wp2
    refine wp_loop_rounds 1 ?_
    rw [rounds_succ]
    go_wp2
    go_ret
    exact ⟨ret_int (by simp), Hown.out, grown_refl _ _⟩
  · obtain ⟨g, c', he⟩ := own_form1 hown h0
    simp only [Value.slice.injEq] at he
    obtain ⟨rfl, _, rfl⟩ := he
    exact markEntS_any base g n c xs k hk0 hk hn w hown

set_option maxRecDepth 100000 in
set_option maxHeartbeats 2000000 in
theorem law_pgList (A : Option Addr) (n c : Nat) (ps : List (List EntD)) (hn : n ≤ 9223372036854775807) (hz : ∀ l ∈ ps, l.length ≤ 9223372036854775807 ∧ ∀ e ∈ l, e.s.size ≤ 9223372036854775807) (w : World) (hP : PagesAt w w.heap.size A n ps) :
    Calls Try.prog 8 #[.slice A n c] w fun e w' => e = .returned (.bool true) ∧ Below w.heap.size w w' := by
  have HP := Lib.hid hP
  have Hz := Lib.hid hz
  have hl := hP.len
  clear hP hz
  go_enter Try.func8, Try.ntmps8
  go_wp2_with fail
  refine (szEntSS_any A n c ps Hz.out hn 1048576 (by omega) (by omega) _ HP.out).mono ?_
  rintro e w1 ⟨r, rfl, hr, hb1⟩
  by_cases hneg : r < 0
  · go_wp2
    go_ret
    exact ⟨rfl, hb1⟩
  · have hsz : szSS ps ≤ 1048576 := by omega
    have hn1 : n ≤ 10000000 := by have := szSS_n ps; omega
    have hfl : ps.flatten.length ≤ 10000000 := by have := szSS_flat ps; omega
    have hrow := Lib.hid (show ∀ l ∈ ps, l.length ≤ 10000000 from fun l hl => by have := szSS_row ps l hl; have := szS_len l; omega)
    have hpl : (pgL ps).length ≤ 10000000 := by have := pgL_len ps; omega
    clear hr Hz
    have hp : ∀ W, Below w.heap.size w W → PagesAt W W.heap.size A n ps := fun W hb => HP.out.next hb
    have Hp := Lib.hid hp
    clear hp
    go_wp2_with fail
    refine (toEntSS_any A n c ps hrow.out hn1 _ (Hp.out _ hb1)).mono ?_
    rintro e w2 ⟨rfl, ⟨gs, hown, hrows⟩, hb2⟩
    have HX := Lib.hid (show PagesAt w2 w2.heap.size _ n ps by rw [← hl] at hown ⊢; exact hrows.pages hown)
    have b2 := belN hb1 hb2
    clear hown hrows
    go_wp2_with fail
    refine (pgList_spec _ n n ps hfl hn1 _ HX.out).mono ?_
    rintro e w3 ⟨v0, rfl, own0, hb3⟩
    have b3 := belN b2 hb3
    have Own03 := Lib.hid own0
    clear HX own0
    go_wp2_with fail
    refine (toEntSS_any A n c ps hrow.out hn1 _ (Hp.out _ b3)).mono ?_
    rintro e w4 ⟨rfl, ⟨gs4, hown, hrows⟩, hb4⟩
    have HX4 := Lib.hid (show PagesAt w4 w4.heap.size (some ⟨w3.heap.size, 0, none⟩) n ps by rw [← hl] at hown ⊢; exact hrows.pages hown)
    have Hrow4 := Lib.hid hown
    have Hrows4 := Lib.hid hrows
    have b4 := belN b3 hb4
    have Own04 := Lib.hid (own_below Own03.out hb4 (Nat.le_refl _))
    clear hown hrows
    go_wp2_with fail
    refine (pgList_impl _ n n ps hfl hn1 _ HX4.out).mono ?_
    rintro e w5 ⟨v1, rfl, own1, hb5⟩
    have HX5 := Lib.hid (HX4.out.next hb5)
    have Hrow5 := Lib.hid (own_below Hrow4.out hb5 (Nat.le_refl _))
    have Hrows5 := Lib.hid (Hrows4.out.below hb5)
    have b5 := belN b4 hb5
    have own05 := own_below Own04.out hb5 (Nat.le_refl _)
    have Hne := Lib.hid (own_apart Own04.out own1)
    have Hlo0 := Lib.hid (fun k hk => (Own03.out.lt k hk).2)
    have Hlo1 := Lib.hid (fun k hk => (own1.lt k hk).1)
    obtain ⟨A0, c0, rfl, _, _, hr0⟩ := own_vals own05
    obtain ⟨A1, c1, rfl, _, _, hr1⟩ := own_vals own1
    have Own05 := Lib.hid own05
    have Own15 := Lib.hid own1
    clear own05 own1 Own03 Own04
    obtain ⟨L, hL⟩ : ∃ L, pgL ps = L := ⟨_, rfl⟩
    have HL := Lib.hid hL
    rw [hL] at hr0 hr1 hpl Own05 Own15 Hne Hlo0 Hlo1 ⊢
    clear hL
    go_wp2_with fail
    refine (eqEntS_self _ _ _ _ _ _ hpl _ hr1 hr0).mono ?_
    rintro e w6 ⟨rfl, hb6⟩
    clear hr0 hr1
    have HX6 := Lib.hid (HX5.out.next hb6)
    have Hrow6 := Lib.hid (own_below Hrow5.out hb6 (Nat.le_refl _))
    have Hrows6 := Lib.hid (Hrows5.out.below hb6)
    have b6 := belN b5 hb6
    have Own06 := Lib.hid (own_below Own05.out hb6 (Nat.le_refl _))
    have Own16 := Lib.hid (own_below Own15.out hb6 (Nat.le_refl _))
    go_wp2_with fail
    refine (toEntSS_any A n c ps hrow.out hn1 _ (Hp.out _ b6)).mono ?_
    rintro e w7 ⟨rfl, ⟨gs7, hown, hrows⟩, hb7⟩
    have HY := Lib.hid (show PagesAt w7 w7.heap.size _ n ps by rw [← hl] at hown ⊢; exact hrows.pages hown)
    have HX7 := Lib.hid (HX6.out.next hb7)
    have Hrow7 := Lib.hid (own_below Hrow6.out hb7 (Nat.le_refl _))
    have Hrows7 := Lib.hid (Hrows6.out.below hb7)
    have b7 := belN b6 hb7
    have Own07 := Lib.hid (own_below Own06.out hb7 (Nat.le_refl _))
    have Own17 := Lib.hid (own_below Own16.out hb7 (Nat.le_refl _))
    clear hown hrows
    go_wp2_with fail
    refine (eqEntSS_self _ _ n n n ps hrow.out hn1 _ HX7.out HY.out).mono ?_
    rintro e w8 ⟨rfl, hb8⟩
    have Hrow8 := Lib.hid (own_below Hrow7.out hb8 (Nat.le_refl _))
    have Hrows8 := Lib.hid (Hrows7.out.below hb8)
    have b8 := belN b7 hb8
    have Own08 := Lib.hid (own_below Own07.out hb8 (Nat.le_refl _))
    have Own18 := Lib.hid (own_below Own17.out hb8 (Nat.le_refl _))
    have s3 := b3.size
    have s38 : w3.heap.size + 1 ≤ w8.heap.size := by have := (own_lt Hrow8.out).2; omega
    go_wp2_with fail
    refine (markEntSS_any w3.heap.size (w3.heap.size + 1) w4.heap.size w3.heap.size n n gs4 ps 1 (by omega) (by omega) hfl hn1 hl _ Hrow8.out Hrows8.out (by omega) (fun x hx => (Hrows4.out.lt x hx).2)).mono ?_
    rintro e w9 ⟨r9, rfl, hr9, hbt⟩
    have b9 := b8.trans ((hbt.below s38).mono (by omega))
    have own09 := own_betw Own08.out hbt (fun g hg => .inl (by have := Hlo0.out g hg; omega))
    have own19 := own_betw Own18.out hbt (fun g hg => .inr (Hlo1.out g hg))
    have Hr0 := Lib.hid (own_reads own09)
    have Hr1 := Lib.hid (own_reads own19)
    have Own09 := Lib.hid own09
    have Own19 := Lib.hid own19
    clear own09 own19
    go_wp2_with fail
    refine (eqEntS_self _ _ _ _ _ _ hpl _ Hr1.out Hr0.out).mono ?_
    rintro e w10 ⟨rfl, hb10⟩
    have b10 := belN b9 hb10
    have Own010 := Lib.hid (own_below Own09.out hb10 (Nat.le_refl _))
    have Own110 := Lib.hid (own_below Own19.out hb10 (Nat.le_refl _))
    go_wp2_with fail
    refine (markEntS_v _ _ _ _ _ 1 (by omega) (by omega) hpl _ Own110.out).mono ?_
    rintro e w11 ⟨rfl, own111, hg11⟩
    have Own011 := Lib.hid (Own010.out.kept hg11 Hne.out)
    have b11 := b10.grown hg11 b10.size (fun k hk => Nat.le_trans b4.size (Own110.out.lt k hk).1)
    have Own111 := Lib.hid own111
    have Hm11 := Lib.hid (own_reads own111)
    clear own111
    go_wp2_with fail
    refine (heldEntS_any _ _ _ 1 (by omega) (by omega) hpl _ Hm11.out).mono ?_
    rintro e w12 ⟨rfl, hb12⟩
    have b12 := belN b11 hb12
    have Own012 := Lib.hid (own_below Own011.out hb12 (Nat.le_refl _))
    have Own112 := Lib.hid (own_below Own111.out hb12 (Nat.le_refl _))
    go_wp2_with fail
    refine (toEntSS_any A n c ps hrow.out hn1 _ (Hp.out _ b12)).mono ?_
    rintro e w13 ⟨rfl, ⟨gs13, hown, hrows⟩, hb13⟩
    have HX13 := Lib.hid (show PagesAt w13 w13.heap.size _ n ps by rw [← hl] at hown ⊢; exact hrows.pages hown)
    have b13 := belN b12 hb13
    have Own013 := Lib.hid (own_below Own012.out hb13 (Nat.le_refl _))
    have Own113 := Lib.hid (own_below Own112.out hb13 (Nat.le_refl _))
    clear hown hrows
    go_wp2_with fail
    refine (pgList_impl _ n n ps hfl hn1 _ HX13.out).mono ?_
    rintro e w14 ⟨v2, rfl, own2, hb14⟩
    have b14 := belN b13 hb14
    have own014 := own_below Own013.out hb14 (Nat.le_refl _)
    have Own114 := Lib.hid (own_below Own113.out hb14 (Nat.le_refl _))
    rw [HL.out] at own2
    obtain ⟨A2, c2, rfl, _, _, hr2⟩ := own_vals own2
    have hr014 := own_reads own014
    clear own2 own014
    go_wp2_with fail
    refine (eqEntS_self _ _ _ _ _ _ hpl _ hr2 hr014).mono ?_
    rintro e w15 ⟨rfl, hb15⟩
    have b15 := belN b14 hb15
    have Hm15 := Lib.hid (own_reads (own_below Own114.out hb15 (Nat.le_refl _)))
    clear hr2 hr014
    go_wp2_with fail
    refine (heldEntS_any _ _ _ 1 (by omega) (by omega) hpl _ Hm15.out).mono ?_
    rintro e w16 ⟨rfl, hb16⟩
    go_wp2
    go_ret
    exact ⟨rfl, belN b15 hb16⟩

set_option maxRecDepth 100000 in
theorem fnExactPgList_lifted (os : Os) (started : os.Started) (H : Type) (enc : TypeId × Value → H) :
    ReturnsInHanded {} Try.checked os 8 .any (Rows.fnExactPgListSpec.pre6 enc Try.prog Try.f8 Rows.fnExactPgListRow.domain false) (Rows.fnExactPgListSpec.post enc Try.prog Try.f8 false true false false) := by
  refine returnsInHanded_of_change (C := Try.checked) Try.own started (by kernel_rfl) Try.func8
    (ChangeSpec.witness6 (enc := enc) (C := Try.checked) false ⟨#[], #[.slice none 0 0], []⟩ 8 (by kernel_rfl) (by kernel_rfl) (by kernel_rfl) (by kernel_rfl)) ?_
  intro W base args ds gs before hval0 hW _ _
  have hval : ∀ (j : Nat) t v, Try.f8.params[j]? = some t → args[j]? = some v → Value.okWide Try.prog W .any base t v := hval0
  have hW' := hW
  obtain ⟨p, q, hA0, hV, rfl, hfz, hnd⟩ := hW
  have hA : DataW.TrodAll enc Try.prog W 0 (fun _ => true) true Try.f8.params.toList args.toList ds p := hA0
  rw [Try.params8] at hA hval
  obtain ⟨v0, d0, rfl, rfl, h0⟩ := trodAll_one hA
  obtain ⟨rfl, rfl⟩ := trodVars_none hV
  obtain ⟨A, n, c, ps, rfl, hn, hP, hz⟩ := open_pages (hval 0 29 v0 rfl rfl) h0
  clear hA0 hval0
  refine (law_pgList A n c ps hn hz W hP).mono fun e W' ⟨he, hw⟩ => ?_
  subst he
  exact ⟨_, rfl, law_post Try.laidOut (by kernel_rfl) rfl Try.underlying4 rfl rfl hW' hw⟩

theorem fnExactPgList_holds : Rows.FnExactPgListSaid :=
  OpenClaim.holds_of_wide 8 Try.f8 rfl rfl rfl rfl rfl rfl rfl ⟨rfl, rfl, rfl, rfl, rfl⟩ rfl rfl rfl rfl rfl (by kernel_rfl) Try.func8 (by kernel_rfl)
    (of_decide_eq_true (by kernel_rfl)) (by unfold Func.isWrapper; rw [if_neg (of_decide_eq_false (by kernel_rfl))]; exact ⟨rfl, rfl⟩)
    (fun os started H enc _ => fnExactPgList_lifted os started H enc)

end Go.Proofs.Ytdijbgdbpkeghaa
