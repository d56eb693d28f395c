/- The walks of ReadVar, in both packages. -/
import Derived.Test.YtlgjehdocppofaaDoorNum
import Derived.Test.YtlgjehdocppofaaDoorPl2
import Derived.Deep.RegionHeld3
namespace Go.Proofs.YtlgjehdocppofaaDoor
open Go Go.RowKit
/-- What stands at a text's beginning. -/
def rvB (s : ByteArray) : Nat × Nat := rv s.data.toList
theorem rvB_le (s : ByteArray) : (rvB s).2 ≤ 7 ∧ (rvB s).2 ≤ s.size ∧ (rvB s).1 < 562949953421312 := by
  have := rv_le s.data.toList
  rwa [size_list] at this
theorem ret_two {a b c d : Int} (h : a = c) (h' : b = d) : Ending.returned (.tuple #[.int .i64 a, .int .i64 b]) = .returned (.tuple #[.int .i64 c, .int .i64 d]) := by rw [h, h']
theorem len_take (s : ByteArray) (k : Nat) (h : k ≤ s.size) : (s.data.toList.take k).length = k := by rw [List.length_take, size_list]; omega
theorem at_list (s : ByteArray) (k : Nat) (h : k < s.size) : s.data.toList[k]'(by rw [size_list]; exact h) = s[k] := rfl
theorem rv_impl_low (s : ByteArray) (k : Nat) (h7 : k < 7) (hk : k < s.size) (hb : s[k].toNat < 128) (ha : ∀ j (hj : j < k), 128 ≤ (s[j]'(by omega)).toNat) :
    rvB s = if varL (valL (s.data.toList.take (k + 1))) = s.data.toList.take (k + 1) then (valL (s.data.toList.take (k + 1)), k + 1) else (0, 0) :=
  rv_low h7 (by rw [size_list]; exact hk) hb ha
theorem varB_take (s : ByteArray) (k : Nat) (h7 : k < 7) (hk : k < s.size) : varB (valL (s.data.toList.take (k + 1)) : Int) = s.extract 0 (k + 1) ↔ varL (valL (s.data.toList.take (k + 1))) = s.data.toList.take (k + 1) := by
  rw [varB_val _ (by rw [len_take s _ (by omega)]; omega)]
  constructor
  · intro h
    have := congrArg (fun x : ByteArray => x.data.toList) h
    simpa [sub_list, str_list] using this
  · intro h
    exact bytes_ext (by rw [sub_list, str_list, h]; rfl)

set_option maxRecDepth 100000 in
set_option maxHeartbeats 1000000 in
theorem readVar_impl (s : ByteArray) (hs : s.size ≤ 1000000000) (w : World) :
    Calls Tryd.prog 161 #[.string s] w fun e w' => e = .returned (.tuple #[.int .i64 (rvB s).1, .int .i64 (rvB s).2]) ∧ Below w.heap.size w w' := by
  go_enter Tryd.func161, Tryd.ntmps161
  go_wp2
  go_loop [4, 5] (fun n i => ∃ (k : Nat), k ≤ s.size ∧ k ≤ 7 ∧ i = .int .i64 k ∧ n = .int .i64 (valL (s.data.toList.take k)) ∧ Hid (∀ j (hj : j < k) (h : j < s.size), 128 ≤ (s[j]).toNat)) (fun _ i => s.size - (intOf i).toNat)
  case atStart => exact ⟨0, by omega, by omega, rfl, rfl, fun j hj => by omega⟩
  case round =>
    obtain ⟨k, hk, hk7, rfl, rfl, ha⟩ := hrel
    by_cases hin : k < s.size ∧ k < 7
    · obtain ⟨hlt, h7⟩ := hin
      have hx := and8_127 (s[k]'hlt)
      have hb := (s[k]'hlt).toNat_lt
      have hor := or_val (s.data.toList.take k) (s[k]'hlt) (by rw [len_take s k hk]; exact h7)
      rw [len_take s k hk, ← take_snoc s k hlt] at hor
      have hv := Lib.hid (varB_take s k h7 hlt)
      obtain ⟨d', hd'⟩ : ∃ d' : Int, (valL (s.data.toList.take (k + 1)) : Int) = d' := ⟨_, rfl⟩
      obtain ⟨d, hd⟩ : ∃ d : Int, (valL (s.data.toList.take k) : Int) = d := ⟨_, rfl⟩
      rw [hd, hd'] at hor
      rw [hd]
      have Hd' := Lib.hid hd'; clear hd'
      have Hd := Lib.hid hd; clear hd
      by_cases hlow : (s[k].toNat : Int) < 128
      · have hr := Lib.hid (rv_impl_low s k h7 hlt (by omega) (fun j hj => ha.out j hj (by omega)))
        have q0 : (0 : Int) ≤ ↑k + 1 := by omega
        have q1 : (↑k : Int) + 1 ≤ ↑s.size := by omega
        have q2 : IntKind.i64.wrap ((k : Int) + 1) = (k : Int) + 1 := IntWalk.i64_in _ (by omega)
        have q3 : ((k : Int) + 1).toNat = k + 1 := by omega
        by_cases heq : varB d' = s.extract 0 (k + 1)
        · have hq := seq_true heq
          have Hq := Lib.hid heq
          clear heq
          go_wp2_with fail
          go_region_held3 (fun _ => True) (trivial)
            (first
              | (go_at_call 98; refine (var_impl _ _).mono ?_; rintro e w1 ⟨rfl, hb1⟩))
          go_wp2
          go_ret2
          have e := hv.out.1 (by rw [Hd'.out]; exact Hq.out)
          exact ⟨ret_two (by rw [hr.out, if_pos e]; exact Hd'.out.symm) (by rw [hr.out, if_pos e]; rfl), belN (bel0 w).drew hb1⟩
        · have hq := seq_false heq
          have Hq := Lib.hid heq
          clear heq
          go_wp2_with fail
          go_region_held3 (fun _ => True) (trivial)
            (first
              | (go_at_call 98; refine (var_impl _ _).mono ?_; rintro e w1 ⟨rfl, hb1⟩))
          go_wp2
          go_ret2
          have e : ¬ _ := fun e => Hq.out (by rw [← Hd'.out]; exact hv.out.2 e)
          exact ⟨ret_two (by rw [hr.out, if_neg e]; rfl) (by rw [hr.out, if_neg e]; rfl), belN (bel0 w).drew hb1⟩
      · go_wp2_with fail
        go_round
        case rel => exact ⟨k + 1, by omega, by omega, by go_num, by rw [Hd'.out], fun j hj h => by
          rcases Nat.lt_or_ge j k with h1 | h1
          · exact ha.out j h1 h
          · obtain rfl : j = k := by omega
            omega⟩
        case measure => simp [intOf]; omega
    · have hr := Lib.hid (show rvB s = _ from rv_none (l := s.data.toList) (fun j hj h7 => ha.out j (by rw [size_list] at hj; omega) (by rw [size_list] at hj; exact hj)))
      by_cases hlt : k < s.size
      · have h7 : ¬ (k : Int) < 7 := by omega
        clear hin
        go_wp2
        go_ret2
        exact ⟨ret_two (by rw [hr.out]; rfl) (by rw [hr.out]; rfl), bel0 _⟩
      · clear hin
        go_wp2
        go_ret2
        exact ⟨ret_two (by rw [hr.out]; rfl) (by rw [hr.out]; rfl), bel0 _⟩

theorem rv_spec_hit (s : ByteArray) (k : Nat) (h7 : k < 7) (hk : k < s.size) (h : varL (valL (s.data.toList.take (k + 1))) = s.data.toList.take (k + 1)) :
    rvB s = (valL (s.data.toList.take (k + 1)), k + 1) := rv_hit h7 (by rw [size_list]; exact hk) h
theorem drop_cons (s : ByteArray) (i k : Nat) (hi : i < k) (hk : k ≤ s.size) : (s.data.toList.take k).drop i = s[i] :: (s.data.toList.take k).drop (i + 1) :=
  drop_take_cons _ i k hi (by rw [size_list]; exact hk)
theorem drop_all (s : ByteArray) (k : Nat) (hk : k ≤ s.size) : (s.data.toList.take k).drop k = [] := List.drop_eq_nil_of_le (by rw [len_take s k hk]; omega)

set_option maxRecDepth 100000 in
set_option maxHeartbeats 2000000 in
theorem readVar_spec (s : ByteArray) (hs : s.size ≤ 1000000000) (w : World) :
    Calls Tryd.prog 168 #[.string s] w fun e w' => e = .returned (.tuple #[.int .i64 (rvB s).1, .int .i64 (rvB s).2]) ∧ Below w.heap.size w w' := by
  go_enter Tryd.func168, Tryd.ntmps168
  go_wp2
  go_loopw [4] (fun i wr => ∃ (k : Nat), k ≤ s.size ∧ k ≤ 7 ∧ i = .int .i64 (k + 1) ∧ Hid (∀ j, j < k → varL (valL (s.data.toList.take (j + 1))) ≠ s.data.toList.take (j + 1)) ∧ Below w.heap.size w wr) (fun i _ => s.size + 1 - (intOf i).toNat)
  case atStart => exact ⟨0, by omega, by omega, rfl, fun j hj => by omega, bel0 _⟩
  case round =>
    obtain ⟨k, hk, hk7, rfl, ha, hbel⟩ := hrel
    by_cases hin : k < s.size ∧ k < 7
    · obtain ⟨hlt, h7⟩ := hin
      have p1 : (k : Int) + 1 ≤ 7 := by omega
      have p2 : (k : Int) + 1 ≤ ↑s.size := by omega
      go_wp2_with fail
      obtain ⟨wo, hwo⟩ : ∃ wo : World, wo = wr := ⟨_, rfl⟩
      subst hwo
      go_loop [5, 6] (fun n i => ∃ (t : Nat) (d : Int), t ≤ k + 1 ∧ i = .int .i64 ((t : Int) - 1) ∧ n = .int .i64 d ∧ 0 ≤ d ∧ d < 562949953421312 ∧ Hid (d = (valL ((s.data.toList.take (k + 1)).drop t) : Int))) (fun _ i => (intOf i + 1).toNat)
      case atStart => exact ⟨k + 1, 0, by omega, by go_num, rfl, by omega, by omega, by rw [drop_all s _ (by omega)]; rfl⟩
      case round =>
        obtain ⟨t, d, ht, rfl, rfl, hd0, hd1, hd⟩ := hrel
        rcases t with _ | t
        · have hdk : d = (valL (s.data.toList.take (k + 1)) : Int) := hd.out
          have hv := Lib.hid (varB_take s k h7 hlt)
          have q0 : (0 : Int) ≤ ↑k + 1 := by omega
          have q1 : (↑k : Int) + 1 ≤ ↑s.size := by omega
          have q2 : IntKind.i64.wrap ((k : Int) + 1) = (k : Int) + 1 := IntWalk.i64_in _ (by omega)
          have q3 : ((k : Int) + 1).toNat = k + 1 := by omega
          have Hdk := Lib.hid hdk
          clear hdk hd
          by_cases heq : varB d = s.extract 0 (k + 1)
          · have hq := seq_true heq
            have Hq := Lib.hid heq
            clear heq
            have e := Lib.hid (hv.out.1 (by rw [← Hdk.out]; exact Hq.out))
            have hr := Lib.hid (rv_spec_hit s k h7 hlt e.out)
            go_wp2_with fail
            go_region_held3 (fun _ => True) (trivial)
              (first
                | (go_at_call 115; refine (var_spec _ _).mono ?_; rintro e w1 ⟨rfl, hb1⟩))
            go_wp2
            go_ret2
            exact ⟨ret_two (by rw [hr.out]; exact Hdk.out) (by rw [hr.out]; rfl), belN hbel.drew hb1⟩
          · have hq := seq_false heq
            have Hq := Lib.hid heq
            clear heq
            go_wp2_with fail
            go_region_held3 (fun _ => True) (trivial)
              (first
                | (go_at_call 115; refine (var_spec _ _).mono ?_; rintro e w1 ⟨rfl, hb1⟩))
            go_wp2
            go_roundw
            case rel => exact ⟨k + 1, by omega, by omega, by go_num, fun j hj => by
              rcases Nat.lt_or_ge j k with h1 | h1
              · exact ha.out j h1
              · obtain rfl : j = k := by omega
                exact fun e => Hq.out (by rw [Hdk.out]; exact hv.out.2 e), belN hbel.drew hb1⟩
            case measure => simp [intOf]; omega
        · have hb := (s[t]'(by omega)).toNat_lt
          have hdc := Lib.hid (drop_cons s t (k + 1) (by omega) (by omega))
          have hlen := Lib.hid (valL_lt7 ((s.data.toList.take (k + 1)).drop t) (by rw [List.length_drop, len_take s _ (by omega)]; omega))
          go_wp2_with fail
          go_round
          case rel =>
            have e : d * 128 + (s[t].toNat : Int) % 128 = (valL ((s.data.toList.take (k + 1)).drop t) : Int) := by rw [hdc.out, valL, hd.out]; omega
            have := hlen.out
            exact ⟨t, _, by omega, rfl, rfl, by omega, by omega, e⟩
          case measure => simp [intOf]
    · have hr := Lib.hid (show rvB s = _ from rv_miss (l := s.data.toList) (fun j h7 hj => ha.out j (by rw [size_list] at hj; omega)))
      by_cases h7 : k < 7
      · have hlt : ¬ (k : Int) + 1 ≤ ↑s.size := by omega
        clear hin
        go_wp2
        go_ret2
        exact ⟨ret_two (by rw [hr.out]; rfl) (by rw [hr.out]; rfl), hbel⟩
      · clear hin
        go_wp2
        go_ret2
        exact ⟨ret_two (by rw [hr.out]; rfl) (by rw [hr.out]; rfl), hbel⟩

end Go.Proofs.YtlgjehdocppofaaDoor
