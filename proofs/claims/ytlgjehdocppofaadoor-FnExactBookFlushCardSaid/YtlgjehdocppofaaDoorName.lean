/- Right names, in both packages. -/
import Derived.Test.YtlgjehdocppofaaDoorKnown
namespace Go.Proofs.YtlgjehdocppofaaDoor
open Go Go.RowKit

/-- A text is a right name. -/
def nameOkB (s : ByteArray) : Bool :=
  match decB s with
  | none => false
  | some xs => inI s.size 1 24 && !(s.toList == [46]) && !(s.toList == [46, 46]) && xs.all fun (n : Nat) => kn n
theorem nameOk_none {s : ByteArray} (h : decB s = none) : nameOkB s = false := by unfold nameOkB; rw [h]
theorem nameOk_some {s : ByteArray} {xs : List Nat} (h : decB s = some xs) : nameOkB s = (inI s.size 1 24 && !(s.toList == [46]) && !(s.toList == [46, 46]) && xs.all fun (n : Nat) => kn n) := by unfold nameOkB; rw [h]
theorem all_no {xs : List Nat} {k : Nat} (hk : k < xs.length) (h : kn xs[k] = false) : (xs.all fun (n : Nat) => kn n) = false := by
  rw [List.all_eq_false]; exact ⟨_, List.getElem_mem hk, by simp [h]⟩
theorem all_upto {xs : List Nat} (h : ∀ j (hj : j < xs.length), kn xs[j] = true) : (xs.all fun (n : Nat) => kn n) = true := by
  rw [List.all_eq_true]
  intro x hx
  obtain ⟨j, hj, rfl⟩ := List.getElem_of_mem hx
  exact h j hj
theorem I64_get (l : List Nat) (k : Nat) (h : k < l.length) : (I64 l)[k]? = some (.int .i64 l[k]) := by simp [I64, h]
theorem own_val {w : World} {base : Nat} {e : TypeId} {size n : Nat} {v : Value} {xs : List Value} (h : w.ownsRow base e size v n xs) : ∃ A c, v = .slice A n c ∧ n ≤ c ∧ Reads w w.heap.size size A n xs := by
  rcases h.2 with ⟨rfl, rfl⟩ | ⟨g, cap, cur, rfl, _, _, hc, _⟩
  · exact ⟨none, 0, rfl, Nat.le_refl _, by have := h.1; simp at this; subst this; exact Reads.none_⟩
  · exact ⟨_, cap, rfl, hc, Reads.of_own h⟩
theorem reads_nat {w : World} {B n : Nat} {A : Option Addr} {xs : List Nat} (h : Reads w B 1 A n (I64 xs)) {k : Nat} (hk : k < n) : ∃ (hk' : k < xs.length) (ad : Addr), A = some ad ∧ ad.block < B ∧ w.cell? (ad.add k) = some (.int .i64 xs[k]) := by
  obtain ⟨ad, u, h1, h2, h3, h4⟩ := h.at_ hk
  have hl : k < xs.length := by have := h.1; simp [I64] at this; omega
  rw [I64_get _ _ hl] at h3
  injection h3 with h3
  exact ⟨hl, ad, h1, h2, by rw [h4, h3]⟩

set_option maxRecDepth 100000 in
set_option maxHeartbeats 2000000 in
theorem nameOk_impl (s : ByteArray) (hs : s.size ≤ 2000000) (w : World) (hT : Tab w) :
    Calls Tryd.prog 100 #[.string s] w fun e w' => e = .returned (.bool (nameOkB s)) ∧ Below w.heap.size w w' := by
  have HT := Lib.hid hT
  clear hT
  go_enter Tryd.func100, Tryd.ntmps100
  go_wp2_with fail
  refine (decode_impl s hs _).mono ?_
  rintro e w1 ⟨hb1, ⟨xs, v, ho, rfl, hown⟩ | ⟨v, ho, rfl, hown⟩⟩
  · have Hf := Lib.hid (nameOk_some ho)
    have hlen := (decB_bd ho).1
    obtain ⟨A, c, rfl, _, hr⟩ := own_val hown
    have Hr := Lib.hid hr
    clear ho hown hr
    rcases hin : inI s.size 1 24 with _ | _
    · go_wp2_with (go_at_call 88; refine (within_any _ _ _ _).mono ?_; rintro e w' ⟨rfl, rfl⟩)
      go_ret
      exact ⟨ret_bool (by rw [Hf.out, hin]; rfl), hb1⟩
    rcases hd1 : s.toList == [46] with _ | _
    rotate_left
    · go_wp2_with (go_at_call 88; refine (within_any _ _ _ _).mono ?_; rintro e w' ⟨rfl, rfl⟩)
      go_ret
      exact ⟨ret_bool (by rw [Hf.out, hd1]; simp), hb1⟩
    rcases hd2 : s.toList == [46, 46] with _ | _
    rotate_left
    · go_wp2_with (go_at_call 88; refine (within_any _ _ _ _).mono ?_; rintro e w' ⟨rfl, rfl⟩)
      go_ret
      exact ⟨ret_bool (by rw [Hf.out, hd2]; simp), hb1⟩
    have Hf2 := Lib.hid (show nameOkB s = xs.all fun (n : Nat) => kn n by rw [Hf.out, hin, hd1, hd2]; rfl)
    go_wp2_with (go_at_call 88; refine (within_any _ _ _ _).mono ?_; rintro e w' ⟨rfl, rfl⟩)
    go_loopw [30] (fun i wr => ∃ (k : Nat), k ≤ xs.length ∧ i = .int .i64 k ∧ Hid (∀ j (hj : j < xs.length), j < k → kn xs[j] = true) ∧ Below w1.heap.size w1 wr)
      (fun i _ => xs.length - (intOf i).toNat)
    case atStart => exact ⟨0, by omega, rfl, fun j _ hj => by omega, bel0 w1⟩
    case round =>
      obtain ⟨k, hk, rfl, hno, hbel⟩ := hrel
      by_cases hlt : k < xs.length
      · obtain ⟨hkx, ad, rfl, hadb, hcell⟩ := reads_nat (Hr.out.below hbel) hlt
        rcases hkn : kn xs[k] with _ | _
        · have Hno := Lib.hid (all_no hkx hkn)
          go_wp2_with (go_at_call 165; refine (known_impl _ _ ((HT.out.bl hb1).bl hbel)).mono ?_; rintro e w2 ⟨rfl, hb2⟩)
          go_ret
          exact ⟨ret_bool (by rw [Hf2.out, Hno.out]), belN (belN hb1 hbel) hb2⟩
        · go_wp2_with (go_at_call 165; refine (known_impl _ _ ((HT.out.bl hb1).bl hbel)).mono ?_; rintro e w2 ⟨rfl, hb2⟩)
          go_roundw
          case rel => exact ⟨k + 1, by omega, by go_num, fun j hj hjk => by
            rcases Nat.lt_or_ge j k with h1 | h1
            · exact hno.out j hj h1
            · obtain rfl : j = k := by omega
              exact hkn, belN hbel hb2⟩
          case measure => simp [intOf]; omega
      · have Hall := Lib.hid (all_upto (fun j hj => hno.out j hj (by omega)))
        go_wp2
        go_ret
        exact ⟨ret_bool (by rw [Hf2.out, Hall.out]), belN hb1 hbel⟩
  · have Hf := Lib.hid (nameOk_none ho)
    clear ho hown
    go_wp2
    go_ret
    exact ⟨ret_bool Hf.out.symm, hb1⟩

set_option maxRecDepth 100000 in
set_option maxHeartbeats 2000000 in
theorem nameOk_spec (s : ByteArray) (hs : s.size ≤ 2000000) (w : World) :
    Calls Tryd.prog 99 #[.string s] w fun e w' => e = .returned (.bool (nameOkB s)) ∧ Below w.heap.size w w' := by
  rcases hin : inI s.size 1 24 with _ | _
  · have Hf := Lib.hid (show nameOkB s = false by unfold nameOkB; rw [hin]; cases decB s <;> rfl)
    go_enter Tryd.func99, Tryd.ntmps99
    go_wp2_with (go_at_call 82; refine (l1In_any _ _ _ _).mono ?_; rintro e w' ⟨rfl, rfl⟩)
    go_ret
    exact ⟨ret_bool Hf.out.symm, bel0 w⟩
  rcases hd1 : s.toList == [46] with _ | _
  rotate_left
  · have Hf := Lib.hid (show nameOkB s = false by unfold nameOkB; rw [hd1]; cases decB s <;> simp)
    go_enter Tryd.func99, Tryd.ntmps99
    go_wp2_with (go_at_call 82; refine (l1In_any _ _ _ _).mono ?_; rintro e w' ⟨rfl, rfl⟩)
    go_ret
    exact ⟨ret_bool Hf.out.symm, bel0 w⟩
  rcases hd2 : s.toList == [46, 46] with _ | _
  rotate_left
  · have Hf := Lib.hid (show nameOkB s = false by unfold nameOkB; rw [hd2]; cases decB s <;> simp)
    go_enter Tryd.func99, Tryd.ntmps99
    go_wp2_with (go_at_call 82; refine (l1In_any _ _ _ _).mono ?_; rintro e w' ⟨rfl, rfl⟩)
    go_ret
    exact ⟨ret_bool Hf.out.symm, bel0 w⟩
  go_enter Tryd.func99, Tryd.ntmps99
  go_wp2_with (go_at_call 82; refine (l1In_any _ _ _ _).mono ?_; rintro e w' ⟨rfl, rfl⟩)
  refine (decode_spec s hs _).mono ?_
  rintro e w1 ⟨hb1, ⟨xs, v, ho, rfl, hown⟩ | ⟨v, ho, rfl, hown⟩⟩
  · have Hf2 := Lib.hid (show nameOkB s = xs.all fun (n : Nat) => kn n by rw [nameOk_some ho, hin, hd1, hd2]; rfl)
    have hlen := (decB_bd ho).1
    obtain ⟨A, c, rfl, _, hr⟩ := own_val hown
    have Hr := Lib.hid hr
    clear ho hown hr
    go_wp2
    go_loopw [4, 5] (fun b i wr => ∃ (k : Nat) (y : Bool), k ≤ xs.length ∧ i = .int .i64 k ∧ b = .bool y ∧ Hid (y = (xs.take k).all fun (n : Nat) => kn n) ∧ Below w1.heap.size w1 wr)
      (fun _ i _ => xs.length - (intOf i).toNat)
    case atStart => exact ⟨0, true, by omega, rfl, rfl, rfl, bel0 w1⟩
    case round =>
      obtain ⟨k, y, hk, rfl, rfl, hy, hbel⟩ := hrel
      by_cases hlt : k < xs.length
      · obtain ⟨hkx, ad, rfl, hadb, hcell⟩ := reads_nat (Hr.out.below hbel) hlt
        have Hs := Lib.hid (show ((xs.take (k + 1)).all fun (n : Nat) => kn n) = (y && kn xs[k]) by rw [List.take_succ_eq_append_getElem hkx, List.all_append, ← hy.out]; simp)
        cases y
        · go_wp2
          go_roundw
          case rel => exact ⟨k + 1, _, by omega, by go_num, rfl, by show _ = _; rw [Hs.out]; rfl, hbel⟩
          case measure => simp [intOf]; omega
        · go_wp2_with (go_at_call 163; refine (known_spec _ _).mono ?_; rintro e w2 ⟨rfl, hb2⟩)
          go_roundw
          case rel => exact ⟨k + 1, _, by omega, by go_num, rfl, by show _ = _; rw [Hs.out]; rfl, belN hbel hb2⟩
          case measure => simp [intOf]; omega
      · have Hall := Lib.hid (show y = xs.all fun (n : Nat) => kn n by rw [hy.out, List.take_of_length_le (by omega)])
        go_wp2
        go_ret
        exact ⟨ret_bool (by rw [Hf2.out, Hall.out]), belN hb1 hbel⟩
  · have Hf := Lib.hid (nameOk_none ho)
    obtain ⟨A, c, rfl, _, hr⟩ := own_val hown
    clear ho hown hr
    go_wp2
    refine wp_loop_rounds 1 ?_
    rw [rounds_succ]
    go_wp2
    go_ret
    exact ⟨ret_bool Hf.out.symm, hb1⟩

end Go.Proofs.YtlgjehdocppofaaDoor
