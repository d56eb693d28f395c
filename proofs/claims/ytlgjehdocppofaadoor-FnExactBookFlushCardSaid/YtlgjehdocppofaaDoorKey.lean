/- What all spellings of a name have, in both packages. -/
import Derived.Test.YtlgjehdocppofaaDoorApartS
import Derived.Test.YtlgjehdocppofaaDoorName
namespace Go.Proofs.YtlgjehdocppofaaDoor
open Go Go.RowKit

/-- What all spellings of a text have. -/
noncomputable def keyB (s : ByteArray) : ByteArray := match decB s with | some xs => keyL (xs.map fun (n : Nat) => (n : Int)) | none => ⟨#[]⟩
noncomputable def keyP (s : ByteArray) : ByteArray × Bool := if nameOkB s = true then (keyB s, true) else (⟨#[]⟩, false)
theorem keyP_no {s : ByteArray} (h : nameOkB s = false) : keyP s = (⟨#[]⟩, false) := by unfold keyP; rw [if_neg (by rw [h]; simp)]
theorem keyP_ok {s : ByteArray} (h : nameOkB s = true) : keyP s = (keyB s, true) := by unfold keyP; rw [if_pos h]
theorem keyP_2 (s : ByteArray) : (keyP s).2 = nameOkB s := by
  cases h : nameOkB s
  · rw [keyP_no h]
  · rw [keyP_ok h]
theorem keyP_yes {s : ByteArray} {xs : List Nat} (h : nameOkB s = true) (hd : decB s = some xs) : keyP s = (encB (apartL (foldL (apartL (xs.map fun (n : Nat) => (n : Int))))), true) := by
  rw [keyP_ok h]; unfold keyB; rw [hd]; rfl
theorem nameOk_dec {s : ByteArray} (h : nameOkB s = true) : ∃ xs, decB s = some xs ∧ s.size ≤ 24 ∧ xs.length ≤ 24 := by
  cases hd : decB s with
  | none => rw [nameOk_none hd] at h; cases h
  | some xs =>
    rw [nameOk_some hd] at h
    simp only [Bool.and_eq_true] at h
    have h1 := inI_true.1 h.1.1.1
    have h2 := (decB_bd hd).1
    exact ⟨xs, rfl, by omega, by omega⟩
theorem keyB_size {s : ByteArray} (h : nameOkB s = true) : (keyB s).size ≤ 20000 := by
  obtain ⟨xs, hd, _, hl⟩ := nameOk_dec h
  unfold keyB; rw [hd]
  have := keyL_size (xs.map fun (n : Nat) => (n : Int))
  rw [List.length_map] at this
  simp only; omega
theorem keyP_size (s : ByteArray) : (keyP s).1.size ≤ 20000 := by
  cases h : nameOkB s
  · rw [keyP_no h]; simp only; rw [str0_size]; omega
  · rw [keyP_ok h]; exact keyB_size h
theorem dec_some {T : TypeId} {w w' : World} {o : Option (List Nat)} {xs : List Nat} {e : Ending} (h : (∃ xs v, o = some xs ∧ e = .returned (.tuple #[v, .bool true]) ∧ w'.ownsRow w.heap.size T 1 v xs.length (I64 xs)) ∨ (∃ v, o = none ∧ e = .returned (.tuple #[v, .bool false]) ∧ w'.ownsRow w.heap.size T 1 v 0 []))
    (ho : o = some xs) : ∃ v, e = .returned (.tuple #[v, .bool true]) ∧ w'.ownsRow w.heap.size T 1 v xs.length (I64 xs) := by
  rcases h with ⟨ys, v, h1, h2, h3⟩ | ⟨v, h1, _⟩
  · rw [ho] at h1; injection h1 with h1; subst h1; exact ⟨v, h2, h3⟩
  · rw [ho] at h1; cases h1

set_option maxRecDepth 100000 in
set_option maxHeartbeats 2000000 in
theorem keyOf_impl (s : ByteArray) (hs : s.size ≤ 2000000) (w : World) (hT : Tab w) :
    Calls Tryd.prog 135 #[.string s] w fun e w' => e = .returned (.tuple #[.string (keyP s).1, .bool (keyP s).2]) ∧ Below w.heap.size w w' := by
  have HT := Lib.hid hT
  rcases hn : nameOkB s with _ | _
  · have Hk := Lib.hid (keyP_no hn)
    have Hn := Lib.hid hn
    clear hn hT
    go_enter Tryd.func135, Tryd.ntmps135
    go_wp2_with fail
    refine (nameOk_impl s hs _ HT.out).mono ?_
    rintro e w1 ⟨rfl, hb1⟩
    rw [Hn.out]
    go_wp2
    go_ret2
    exact ⟨by rw [Hk.out]; rfl, hb1⟩
  · obtain ⟨xs, hdec, hsz, hlen⟩ := nameOk_dec hn
    have Hk := Lib.hid (keyP_yes hn hdec)
    have Hn := Lib.hid hn
    have Hd := Lib.hid hdec
    clear hn hdec hT
    go_enter Tryd.func135, Tryd.ntmps135
    go_wp2_with fail
    refine (nameOk_impl s hs _ HT.out).mono ?_
    rintro e w1 ⟨rfl, hb1⟩
    rw [Hn.out]
    go_wp2_with fail
    refine (decode_impl s hs _).mono ?_
    rintro e w2 ⟨hb2, hpost⟩
    obtain ⟨v, rfl, hown⟩ := dec_some hpost Hd.out
    have b2 := belN hb1 hb2
    obtain ⟨A, c, rfl, _, _, hr⟩ := own_vals hown
    rw [II_of] at hr
    have hl : (xs.map fun (n : Nat) => (n : Int)).length = xs.length := List.length_map _
    obtain ⟨ys, hys⟩ : ∃ ys : List Int, (xs.map fun (n : Nat) => (n : Int)) = ys := ⟨_, rfl⟩
    rw [hys] at hr hl Hk
    obtain ⟨n, hn⟩ : ∃ n, xs.length = n := ⟨_, rfl⟩
    rw [hn] at hr hl hlen ⊢
    clear hown hys hn
    have Hr := Lib.hid hr
    have Hl := Lib.hid hl
    clear hr hl hpost
    have l1 := apartL_len ys
    have l2 := foldL_len (apartL ys)
    have l3 := apartL_len (foldL (apartL ys))
    rw [Hl.out] at l1
    go_wp2_with fail
    refine (apart_impl A n c ys Hl.out (by omega) _ Hr.out).mono ?_
    rintro e w3 ⟨v3, rfl, hown3, hb3⟩
    have b3 := belN b2 hb3
    obtain ⟨A3, c3, rfl, _, _, hr3⟩ := own_vals hown3
    clear hown3
    go_wp2_with fail
    refine (fold_impl A3 _ c3 _ rfl (by omega) _ hr3).mono ?_
    rintro e w4 ⟨v4, rfl, hown4, hb4⟩
    have b4 := belN b3 hb4
    obtain ⟨A4, c4, rfl, _, _, hr4⟩ := own_vals hown4
    clear hown4 hr3
    go_wp2_with fail
    refine (apart_impl A4 _ c4 _ rfl (by omega) _ hr4).mono ?_
    rintro e w5 ⟨v5, rfl, hown5, hb5⟩
    have b5 := belN b4 hb5
    obtain ⟨A5, c5, rfl, _, _, hr5⟩ := own_vals hown5
    clear hown5 hr4
    go_wp2_with fail
    refine (encode_impl A5 _ c5 _ rfl (by omega) _ hr5).mono ?_
    rintro e w6 ⟨rfl, hb6⟩
    go_wp2
    go_ret2
    exact ⟨by rw [Hk.out]; rfl, belN b5 hb6⟩

set_option maxRecDepth 100000 in
set_option maxHeartbeats 2000000 in
theorem keyOf_spec (s : ByteArray) (hs : s.size ≤ 2000000) (w : World) :
    Calls Tryd.prog 170 #[.string s] w fun e w' => e = .returned (.tuple #[.string (keyP s).1, .bool (keyP s).2]) ∧ Below w.heap.size w w' := by
  rcases hn : nameOkB s with _ | _
  · have Hk := Lib.hid (keyP_no hn)
    have Hn := Lib.hid hn
    clear hn
    go_enter Tryd.func170, Tryd.ntmps170
    go_wp2_with fail
    refine (nameOk_spec s hs _).mono ?_
    rintro e w1 ⟨rfl, hb1⟩
    rw [Hn.out]
    go_wp2
    go_ret2
    exact ⟨by rw [Hk.out]; rfl, hb1⟩
  · obtain ⟨xs, hdec, hsz, hlen⟩ := nameOk_dec hn
    have Hk := Lib.hid (keyP_yes hn hdec)
    have Hn := Lib.hid hn
    have Hd := Lib.hid hdec
    clear hn hdec
    go_enter Tryd.func170, Tryd.ntmps170
    go_wp2_with fail
    refine (nameOk_spec s hs _).mono ?_
    rintro e w1 ⟨rfl, hb1⟩
    rw [Hn.out]
    go_wp2_with fail
    refine (decode_spec s hs _).mono ?_
    rintro e w2 ⟨hb2, hpost⟩
    obtain ⟨v, rfl, hown⟩ := dec_some hpost Hd.out
    have b2 := belN hb1 hb2
    obtain ⟨A, c, rfl, _, _, hr⟩ := own_vals hown
    rw [II_of] at hr
    have hl : (xs.map fun (n : Nat) => (n : Int)).length = xs.length := List.length_map _
    obtain ⟨ys, hys⟩ : ∃ ys : List Int, (xs.map fun (n : Nat) => (n : Int)) = ys := ⟨_, rfl⟩
    rw [hys] at hr hl Hk
    obtain ⟨n, hn⟩ : ∃ n, xs.length = n := ⟨_, rfl⟩
    rw [hn] at hr hl hlen ⊢
    clear hown hys hn
    have Hr := Lib.hid hr
    have Hl := Lib.hid hl
    clear hr hl hpost
    have l1 := apartL_len ys
    have l2 := foldL_len (apartL ys)
    have l3 := apartL_len (foldL (apartL ys))
    rw [Hl.out] at l1
    go_wp2_with fail
    refine (apart_spec A n c ys Hl.out (by omega) _ Hr.out).mono ?_
    rintro e w3 ⟨v3, rfl, hown3, hb3⟩
    have b3 := belN b2 hb3
    obtain ⟨A3, c3, rfl, _, _, hr3⟩ := own_vals hown3
    clear hown3
    go_wp2_with fail
    refine (fold_spec A3 _ c3 _ rfl (by omega) _ hr3).mono ?_
    rintro e w4 ⟨v4, rfl, hown4, hb4⟩
    have b4 := belN b3 hb4
    obtain ⟨A4, c4, rfl, _, _, hr4⟩ := own_vals hown4
    clear hown4 hr3
    go_wp2_with fail
    refine (apart_spec A4 _ c4 _ rfl (by omega) _ hr4).mono ?_
    rintro e w5 ⟨v5, rfl, hown5, hb5⟩
    have b5 := belN b4 hb5
    obtain ⟨A5, c5, rfl, _, _, hr5⟩ := own_vals hown5
    clear hown5 hr4
    go_wp2_with fail
    refine (encode_spec A5 _ c5 _ rfl (by omega) _ hr5).mono ?_
    rintro e w6 ⟨rfl, hb6⟩
    go_wp2
    go_ret2
    exact ⟨by rw [Hk.out]; rfl, belN b5 hb6⟩

/-- Where a name's entries stand. -/
noncomputable def hashI (s : ByteArray) : Int := if nameOkB s = true then crcB (keyB s) % 16 else -1
theorem hashI_no {s : ByteArray} (h : nameOkB s = false) : hashI s = -1 := by unfold hashI; rw [if_neg (by rw [h]; simp)]
theorem hashI_ok {s : ByteArray} (h : nameOkB s = true) : hashI s = crcB (keyB s) % 16 := by unfold hashI; rw [if_pos h]

set_option maxRecDepth 100000 in
set_option maxHeartbeats 1000000 in
theorem hashOf_impl (s : ByteArray) (hs : s.size ≤ 2000000) (w : World) (hT : Tab w) :
    Calls Tryd.prog 114 #[.string s] w fun e w' => e = .returned (.int .i64 (hashI s)) ∧ Below w.heap.size w w' := by
  have HT := Lib.hid hT
  clear hT
  rcases hn : nameOkB s with _ | _
  · have Hk := Lib.hid (keyP_no hn)
    have Hh := Lib.hid (hashI_no hn)
    clear hn
    go_enter Tryd.func114, Tryd.ntmps114
    go_wp2_with fail
    refine (keyOf_impl s hs _ HT.out).mono ?_
    rintro e w1 ⟨rfl, hb1⟩
    rw [Hk.out]
    simp only
    go_wp2
    go_ret
    exact ⟨by rw [Hh.out]; rfl, hb1⟩
  · have Hk := Lib.hid (keyP_ok hn)
    have Hh := Lib.hid (hashI_ok hn)
    have hz := keyB_size hn
    have hc := crcB_bd (keyB s)
    clear hn
    obtain ⟨k, hk⟩ : ∃ k, keyB s = k := ⟨_, rfl⟩
    rw [hk] at Hk Hh hz hc
    clear hk
    obtain ⟨hc0, hc1⟩ := hc
    go_enter Tryd.func114, Tryd.ntmps114
    go_wp2_with fail
    refine (keyOf_impl s hs _ HT.out).mono ?_
    rintro e w1 ⟨rfl, hb1⟩
    rw [Hk.out]
    simp only
    go_wp2_with (go_at_call 136; refine (crc_impl k (by omega) _).mono ?_; rintro e w' ⟨rfl, rfl⟩)
    go_ret
    exact ⟨ret_int Hh.out.symm, hb1⟩

set_option maxRecDepth 100000 in
set_option maxHeartbeats 1000000 in
theorem hashOf_spec (s : ByteArray) (hs : s.size ≤ 2000000) (w : World) :
    Calls Tryd.prog 122 #[.string s] w fun e w' => e = .returned (.int .i64 (hashI s)) ∧ Below w.heap.size w w' := by
  rcases hn : nameOkB s with _ | _
  · have Hk := Lib.hid (keyP_no hn)
    have Hh := Lib.hid (hashI_no hn)
    clear hn
    go_enter Tryd.func122, Tryd.ntmps122
    go_wp2_with fail
    refine (keyOf_spec s hs _).mono ?_
    rintro e w1 ⟨rfl, hb1⟩
    rw [Hk.out]
    simp only
    go_wp2
    go_ret
    exact ⟨by rw [Hh.out]; rfl, hb1⟩
  · have Hk := Lib.hid (keyP_ok hn)
    have Hh := Lib.hid (hashI_ok hn)
    have hz := keyB_size hn
    have hc := crcB_bd (keyB s)
    clear hn
    obtain ⟨k, hk⟩ : ∃ k, keyB s = k := ⟨_, rfl⟩
    rw [hk] at Hk Hh hz hc
    clear hk
    obtain ⟨hc0, hc1⟩ := hc
    go_enter Tryd.func122, Tryd.ntmps122
    go_wp2_with fail
    refine (keyOf_spec s hs _).mono ?_
    rintro e w1 ⟨rfl, hb1⟩
    rw [Hk.out]
    simp only
    go_wp2_with (go_at_call 118; refine (crc_spec k (by omega) _).mono ?_; rintro e w' ⟨rfl, rfl⟩)
    go_ret
    exact ⟨ret_int Hh.out.symm, hb1⟩

theorem eqB_dec {a b : ByteArray} (h : a ≠ b) : (a.toList == b.toList) = false := seq_false h
/-- Two names are one. -/
noncomputable def alikeB (a b : ByteArray) : Bool := nameOkB a && nameOkB b && @decide (keyB a = keyB b) (Classical.propDecidable _)

end Go.Proofs.YtlgjehdocppofaaDoor
