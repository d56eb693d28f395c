/- The law of RingRead: what the program's RingRead gives is what the reference's gives, in new memory. -/
import Derived.Test.YtdijbgdbpkeghaaRing2
import Derived.Test.YtdijbgdbpkeghaaFrame
namespace Go.Proofs.Ytdijbgdbpkeghaa
open Go Go.RowKit Go.ChangeShapes Go.WideShapes Go.ChangeAt Go.Joins

theorem own_sep {w w' : World} {b e' : Nat} {e : TypeId} {s s' n n' : Nat} {v v' : Value} {xs xs' : List Value} (h : w.ownsRow b e s v n xs) (h' : w'.ownsRow w.heap.size e' s' v' n' xs') : v.ownBlock = none ∨ v.ownBlock ≠ v'.ownBlock := by
  cases hv : v.ownBlock with
  | none => exact .inl rfl
  | some k =>
    refine .inr fun e => ?_
    have h1 := h.lt k hv
    have h2 := h'.lt k e.symm
    omega
theorem own_rd {w : World} {b : Nat} {e : TypeId} {s n c : Nat} {A : Option Addr} {xs : List Value} (h : w.ownsRow b e s (.slice A n c) n xs) : Reads w w.heap.size s A n xs := by
  obtain ⟨A', c', he, _, _, h⟩ := own_vals h
  simp only [Value.slice.injEq] at he
  obtain ⟨rfl, _, _⟩ := he
  exact h

set_option maxRecDepth 100000 in
set_option maxHeartbeats 2000000 in
theorem law_ringRead (A : Option Addr) (n c : Nat) (L0 : List ByteArray) (hn : n ≤ 9223372036854775807) (hz : ∀ s ∈ L0, s.size ≤ 9223372036854775807) (w : World) (hP : Reads w w.heap.size 1 A n (SS L0)) :
    Calls Try.prog 9 #[.slice A n c] w fun e w' => e = .returned (.bool true) ∧ Below w.heap.size w w' := by
  have HP := Lib.hid hP
  have Hz := Lib.hid hz
  have hl : L0.length = n := by have := hP.1; rw [SS_length] at this; omega
  clear hP hz
  go_enter Try.func9, Try.ntmps9
  go_wp2_with fail
  refine (szStringS_any A n c L0 Hz.out hn 1048576 (by omega) (by omega) _ HP.out).mono ?_
  rintro e w1 ⟨r, rfl, hr, hb1⟩
  by_cases hneg : r < 0
  · go_wp2
    go_ret
    exact ⟨rfl, hb1⟩
  · have hsz : szT L0 ≤ 1048576 := by omega
    have hn1 : n ≤ 10000000 := by have := szT_len L0; omega
    have hS := Lib.hid (show ∀ s ∈ L0, s.size ≤ 1000000000 from fun s hs => by have := szT_mem L0 s hs; omega)
    have hpl : (ringL L0).length ≤ 10000000 := by have := ringL_len L0; omega
    clear hr Hz
    have hp : ∀ W, Below w.heap.size w W → Reads W W.heap.size 1 A n (SS L0) := fun W hb => (HP.out.below hb).more hb.size
    have Hp := Lib.hid hp
    clear hp
    go_wp2_with fail
    refine (toStringS_any A n c L0 hn1 _ (Hp.out _ hb1)).mono ?_
    rintro e w2 ⟨rfl, hown, hb2⟩
    have HX := Lib.hid (own_rd hown)
    have b2 := belN hb1 hb2
    clear hown
    go_wp2_with fail
    refine (ringRead_spec _ n n L0 hn1 hS.out _ HX.out).mono ?_
    rintro e w3 ⟨v0, rfl, own0, hb3⟩
    have b3 := belN b2 hb3
    have Own03 := Lib.hid own0
    clear HX own0
    go_wp2_with fail
    refine (toStringS_any A n c L0 hn1 _ (Hp.out _ b3)).mono ?_
    rintro e w4 ⟨rfl, hown, hb4⟩
    have HX4 := Lib.hid (own_rd hown)
    have Hrow4 := Lib.hid hown
    have b4 := belN b3 hb4
    have Own04 := Lib.hid (own_below Own03.out hb4 (Nat.le_refl _))
    clear hown
    go_wp2_with fail
    refine (ringRead_impl _ n n L0 hn1 hS.out _ HX4.out).mono ?_
    rintro e w5 ⟨v1, rfl, own1, hb5⟩
    have Hrow5 := Lib.hid (own_below Hrow4.out hb5 (Nat.le_refl _))
    have b5 := belN b4 hb5
    have own05 := own_below Own04.out hb5 (Nat.le_refl _)
    have Hne := Lib.hid (own_sep Own04.out own1)
    have Hnx0 := Lib.hid (own_sep Own03.out Hrow4.out)
    have Hnx1 := Lib.hid (own_sep Hrow4.out own1)
    obtain ⟨A0, c0, rfl, _, _, hr0⟩ := own_vals own05
    obtain ⟨A1, c1, rfl, _, _, hr1⟩ := own_vals own1
    have Own05 := Lib.hid own05
    have Own15 := Lib.hid own1
    clear own05 own1 Own03 Own04
    obtain ⟨L, hL⟩ : ∃ L, ringL L0 = L := ⟨_, rfl⟩
    have HL := Lib.hid hL
    rw [hL] at hr0 hr1 hpl Own05 Own15 Hne Hnx0 Hnx1 ⊢
    clear hL
    go_wp2_with fail
    refine (eqRecS_self _ _ _ _ _ _ hpl _ hr1 hr0).mono ?_
    rintro e w6 ⟨rfl, hb6⟩
    clear hr0 hr1
    have Hrow6 := Lib.hid (own_below Hrow5.out hb6 (Nat.le_refl _))
    have b6 := belN b5 hb6
    have Own06 := Lib.hid (own_below Own05.out hb6 (Nat.le_refl _))
    have Own16 := Lib.hid (own_below Own15.out hb6 (Nat.le_refl _))
    go_wp2_with fail
    refine (toStringS_any A n c L0 hn1 _ (Hp.out _ b6)).mono ?_
    rintro e w7 ⟨rfl, hown, hb7⟩
    have HY := Lib.hid (own_rd hown)
    have Hrow7 := Lib.hid (own_below Hrow6.out hb7 (Nat.le_refl _))
    have b7 := belN b6 hb7
    have Own07 := Lib.hid (own_below Own06.out hb7 (Nat.le_refl _))
    have Own17 := Lib.hid (own_below Own16.out hb7 (Nat.le_refl _))
    clear hown
    go_wp2_with fail
    refine (eqStringS_self _ _ n n n L0 hn1 _ (own_rd Hrow7.out) HY.out).mono ?_
    rintro e w8 ⟨rfl, hb8⟩
    have Hrow8 := Lib.hid (own_below Hrow7.out hb8 (Nat.le_refl _))
    have b8 := belN b7 hb8
    have Own08 := Lib.hid (own_below Own07.out hb8 (Nat.le_refl _))
    have Own18 := Lib.hid (own_below Own17.out hb8 (Nat.le_refl _))
    go_wp2_with fail
    refine (markStringS_any _ _ n L0 1 (by omega) (by omega) hn1 _ Hrow8.out).mono ?_
    rintro e w9 ⟨rfl, _, hg9⟩
    have b9 := b8.grown hg9 b8.size (fun k hk => Nat.le_trans b3.size (Hrow8.out.lt k hk).1)
    have own09 := Own08.out.kept hg9 Hnx0.out
    have own19 := Own18.out.kept hg9 (Hnx1.out.elim (fun h => absurd h (by simp [Value.ownBlock])) (fun h => .inr fun e => h e.symm))
    have Hr0 := Lib.hid (own_rd own09)
    have Hr1 := Lib.hid (own_rd own19)
    have Own09 := Lib.hid own09
    have Own19 := Lib.hid own19
    clear own09 own19
    go_wp2_with fail
    refine (eqRecS_self _ _ _ _ _ _ hpl _ Hr1.out Hr0.out).mono ?_
    rintro e w10 ⟨rfl, hb10⟩
    have b10 := belN b9 hb10
    have Own010 := Lib.hid (own_below Own09.out hb10 (Nat.le_refl _))
    have Own110 := Lib.hid (own_below Own19.out hb10 (Nat.le_refl _))
    go_wp2_with fail
    refine (markRecS_v _ _ _ _ _ 1 (by omega) (by omega) hpl _ Own110.out).mono ?_
    rintro e w11 ⟨rfl, own111, hg11⟩
    have Own011 := Lib.hid (Own010.out.kept hg11 Hne.out)
    have b11 := b10.grown hg11 b10.size (fun k hk => Nat.le_trans b4.size (Own110.out.lt k hk).1)
    have Own111 := Lib.hid own111
    have Hm11 := Lib.hid (own_rd own111)
    clear own111
    go_wp2_with fail
    refine (heldRecS_any _ _ _ 1 (by omega) (by omega) hpl _ Hm11.out).mono ?_
    rintro e w12 ⟨rfl, hb12⟩
    have b12 := belN b11 hb12
    have Own012 := Lib.hid (own_below Own011.out hb12 (Nat.le_refl _))
    have Own112 := Lib.hid (own_below Own111.out hb12 (Nat.le_refl _))
    go_wp2_with fail
    refine (toStringS_any A n c L0 hn1 _ (Hp.out _ b12)).mono ?_
    rintro e w13 ⟨rfl, hown, hb13⟩
    have HX13 := Lib.hid (own_rd hown)
    have b13 := belN b12 hb13
    have Own013 := Lib.hid (own_below Own012.out hb13 (Nat.le_refl _))
    have Own113 := Lib.hid (own_below Own112.out hb13 (Nat.le_refl _))
    clear hown
    go_wp2_with fail
    refine (ringRead_impl _ n n L0 hn1 hS.out _ HX13.out).mono ?_
    rintro e w14 ⟨v2, rfl, own2, hb14⟩
    have b14 := belN b13 hb14
    have own014 := own_below Own013.out hb14 (Nat.le_refl _)
    have Own114 := Lib.hid (own_below Own113.out hb14 (Nat.le_refl _))
    rw [HL.out] at own2
    obtain ⟨A2, c2, rfl, _, _, hr2⟩ := own_vals own2
    have hr014 := own_rd own014
    clear own2 own014
    go_wp2_with fail
    refine (eqRecS_self _ _ _ _ _ _ hpl _ hr2 hr014).mono ?_
    rintro e w15 ⟨rfl, hb15⟩
    have b15 := belN b14 hb15
    have Hm15 := Lib.hid (own_rd (own_below Own114.out hb15 (Nat.le_refl _)))
    clear hr2 hr014
    go_wp2_with fail
    refine (heldRecS_any _ _ _ 1 (by omega) (by omega) hpl _ Hm15.out).mono ?_
    rintro e w16 ⟨rfl, hb16⟩
    go_wp2
    go_ret
    exact ⟨rfl, belN b15 hb16⟩

set_option maxRecDepth 100000 in
theorem fnExactRingRead_lifted (os : Os) (started : os.Started) (H : Type) (enc : TypeId × Value → H) :
    ReturnsInHanded {} Try.checked os 9 .any (Rows.fnExactRingReadSpec.pre6 enc Try.prog Try.f9 Rows.fnExactRingReadRow.domain false) (Rows.fnExactRingReadSpec.post enc Try.prog Try.f9 false true false false) := by
  refine returnsInHanded_of_change (C := Try.checked) Try.own started (by kernel_rfl) Try.func9
    (ChangeSpec.witness6 (enc := enc) (C := Try.checked) false ⟨#[], #[.slice none 0 0], []⟩ 8 (by kernel_rfl) (by kernel_rfl) (by kernel_rfl) (by kernel_rfl)) ?_
  intro W base args ds gs before hval0 hW _ _
  have hval : ∀ (j : Nat) t v, Try.f9.params[j]? = some t → args[j]? = some v → Value.okWide Try.prog W .any base t v := hval0
  have hW' := hW
  obtain ⟨p, q, hA0, hV, rfl, hfz, hnd⟩ := hW
  have hA : DataW.TrodAll enc Try.prog W 0 (fun _ => true) true Try.f9.params.toList args.toList ds p := hA0
  rw [Try.params9] at hA hval
  obtain ⟨v0, d0, rfl, rfl, h0⟩ := trodAll_one hA
  obtain ⟨rfl, rfl⟩ := trodVars_none hV
  obtain ⟨fuel, hf⟩ := h0
  obtain ⟨A, c, l, h1, hP, hn, hz⟩ := open_strs hf
  obtain ⟨A2, n2, c2, rfl⟩ := okWide_slice Try.underlying57 (hval 0 57 v0 rfl rfl)
  simp [Value.cells] at h1
  obtain ⟨rfl, rfl, rfl⟩ := h1
  clear hA0 hval0
  refine (law_ringRead _ _ _ l hn hz W hP).mono fun e W' ⟨he, hw⟩ => ?_
  subst he
  exact ⟨_, rfl, law_post Try.laidOut (by kernel_rfl) rfl Try.underlying4 rfl rfl hW' hw⟩

theorem fnExactRingRead_holds : Rows.FnExactRingReadSaid :=
  OpenClaim.holds_of_wide 9 Try.f9 rfl rfl rfl rfl rfl rfl rfl ⟨rfl, rfl, rfl, rfl, rfl⟩ rfl rfl rfl rfl rfl (by kernel_rfl) Try.func9 (by kernel_rfl)
    (of_decide_eq_true (by kernel_rfl)) (by unfold Func.isWrapper; rw [if_neg (of_decide_eq_false (by kernel_rfl))]; exact ⟨rfl, rfl⟩)
    (fun os started H enc _ => fnExactRingRead_lifted os started H enc)

end Go.Proofs.Ytdijbgdbpkeghaa
