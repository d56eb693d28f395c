/- Whether a directory is right, in the program. -/
import Derived.Test.YthdbomkddpnhaaaGreatDoorApart
import Derived.Test.YthdbomkddpnhaaaGreatDoorPgOk
import Derived.Test.YthdbomkddpnhaaaGreatDoorStrRows
namespace Go.Proofs.YthdbomkddpnhaaaGreatDoor
open Go Go.RowKit

/-- A text stands among others. -/
def memB (xs : List ByteArray) (q : ByteArray) : Bool := xs.any fun y => q.toList == y.toList
theorem memB_iff {xs : List ByteArray} {q : ByteArray} : memB xs q = true ↔ q ∈ xs := by
  unfold memB
  rw [List.any_eq_true]
  constructor
  · rintro ⟨y, hy, h⟩
    rw [beq_iff_eq, ByteArray.toList_eq, ByteArray.toList_eq] at h
    rw [bytes_ext h]; exact hy
  · intro h; exact ⟨q, h, by simp⟩
theorem memB_no {xs : List ByteArray} {q : ByteArray} (h : memB xs q = false) : q ∉ xs := fun hm => by rw [memB_iff.2 hm] at h; cases h
theorem memB_snoc (xs : List ByteArray) (y q : ByteArray) : memB (xs ++ [y]) q = (memB xs q || (q.toList == y.toList)) := by unfold memB; rw [List.any_append]; simp

set_option maxHeartbeats 1000000 in
theorem indexS_any (A : Option Addr) (n c : Nat) (xs : List ByteArray) (q : ByteArray) (hn : n ≤ 10000000) (w : World) (hr : Reads w w.heap.size 1 A n (SS xs)) :
    Calls Tryz.prog 275 #[.slice A n c, .string q] w fun e w' => ∃ r : Int, e = .returned (.int .i64 r) ∧ decide (0 ≤ r) = memB xs q ∧ w = w' := by
  have hl : xs.length = n := by have := hr.1; rw [SS_length] at this; omega
  have Hr := Lib.hid hr
  clear hr
  go_enter Tryz.func275, Tryz.ntmps275
  go_wp2
  go_loop [8] (fun i => ∃ (j : Nat), j ≤ n ∧ i = .int .i64 j ∧ Hid (memB (xs.take j) q = false))
    (fun i => n - (intOf i).toNat)
  case atStart => exact ⟨0, by omega, rfl, rfl⟩
  case round =>
    obtain ⟨j, hj, rfl, hno⟩ := hrel
    by_cases hlt : j < n
    · obtain ⟨hkx, ad, rfl, hadb, z0⟩ := reads_str Hr.out hlt
      have q0 : (0 : Int) ≤ ↑j := by omega
      have q1 : (↑j : Int) < ↑n := by omega
      have Hs := Lib.hid (List.take_succ_eq_append_getElem hkx)
      have Hm := Lib.hid (List.getElem_mem hkx)
      obtain ⟨x, hx⟩ : ∃ x, xs[j] = x := ⟨_, rfl⟩
      rw [hx] at z0 Hs Hm
      clear hx
      rcases he : (q.toList == x.toList) with _ | _
      · have Hn := Lib.hid (show memB (xs.take (j + 1)) q = false by rw [Hs.out, memB_snoc, hno.out, he]; rfl)
        go_wp2
        go_round
        case rel => exact ⟨j + 1, by omega, by go_num, Hn.out⟩
        case measure => simp [intOf]; omega
      · have Hn := Lib.hid (show memB xs q = true from List.any_eq_true.2 ⟨x, Hm.out, he⟩)
        go_wp2
        go_ret
        exact ⟨_, rfl, by rw [Hn.out]; simp, rfl⟩
    · have Hn := Lib.hid (show memB xs q = false by have := hno.out; rwa [List.take_of_length_le (by omega)] at this)
      go_wp2
      go_ret
      exact ⟨_, rfl, by rw [Hn.out]; rfl, rfl⟩

set_option maxHeartbeats 1000000 in
theorem containsS_any (A : Option Addr) (n c : Nat) (xs : List ByteArray) (q : ByteArray) (hn : n ≤ 10000000) (w : World) (hr : Reads w w.heap.size 1 A n (SS xs)) :
    Calls Tryz.prog 223 #[.slice A n c, .string q] w fun e w' => e = .returned (.bool (memB xs q)) ∧ w = w' := by
  have Hr := Lib.hid hr
  clear hr
  go_enter Tryz.func223, Tryz.ntmps223
  go_wp2_with fail
  refine (indexS_any A n c xs q hn _ Hr.out).mono ?_
  rintro e w' ⟨r, rfl, hr, rfl⟩
  have Hd := Lib.hid hr
  clear hr
  go_wp2
  go_ret
  exact ⟨ret_bool Hd.out, rfl⟩

theorem isId_any (x : Int) (w : World) : Calls Tryz.prog 224 #[.int .i64 x] w fun e w' => e = .returned (.bool (inI x 1 100000)) ∧ w = w' := by
  go_enter Tryz.func224, Tryz.ntmps224
  go_wp2_with (go_at_call 124; refine (within_any _ _ _ _).mono ?_; rintro e w' ⟨rfl, rfl⟩)
  go_ret
  exact ⟨rfl, rfl⟩

theorem alikeB_eq {a b : ByteArray} (ha : nameOkB a = true) (hb : nameOkB b = true) : alikeB a b = true ↔ keyB a = keyB b := by
  unfold alikeB
  rw [ha, hb]
  simp

set_option maxHeartbeats 1000000 in
theorem alike_spec (a b : ByteArray) (ha : a.size ≤ 2000000) (hb : b.size ≤ 2000000) (w : World) :
    Calls Tryz.prog 212 #[.string a, .string b] w fun e w' => e = .returned (.bool (alikeB a b)) ∧ Below w.heap.size w w' := by
  have Ka := Lib.hid (keyP_2 a)
  have Kb := Lib.hid (keyP_2 b)
  obtain ⟨x, p, hx⟩ : ∃ x p, keyP a = (x, p) := ⟨_, _, rfl⟩
  obtain ⟨y, q, hy⟩ : ∃ y q, keyP b = (y, q) := ⟨_, _, rfl⟩
  have Hx := Lib.hid hx
  have Hy := Lib.hid hy
  have hf : ∀ z : Bool, (x.toList == y.toList) = z → alikeB a b = (p && (q && z)) := by
    intro z hz
    have hp : nameOkB a = p := by rw [← keyP_2, hx]
    have hq : nameOkB b = q := by rw [← keyP_2, hy]
    unfold alikeB
    rw [hp, hq]
    cases p
    · rfl
    · cases q
      · rfl
      · rw [keyP_ok hp] at hx
        rw [keyP_ok hq] at hy
        injection hx with hx _
        injection hy with hy _
        rw [hx, hy]
        cases z
        · rw [beq_eq_false_iff_ne, ne_eq, ByteArray.toList_eq, ByteArray.toList_eq] at hz
          simp only [Bool.true_and, decide_eq_false_iff_not]
          exact fun e => hz (by rw [e])
        · rw [beq_iff_eq, ByteArray.toList_eq, ByteArray.toList_eq] at hz
          simp [bytes_ext hz]
  clear hx hy
  rcases hz : (x.toList == y.toList) with _ | _
  all_goals
    have Hf := Lib.hid (hf _ hz)
    cases p <;> cases q
    all_goals
      clear hf
      go_enter Tryz.func212, Tryz.ntmps212
      go_wp2_with fail
      refine (keyOf_spec a ha _).mono ?_
      rintro e w1 ⟨rfl, hb1⟩
      rw [Hx.out]
      simp only
      go_wp2_with fail
      refine (keyOf_spec b hb _).mono ?_
      rintro e w2 ⟨rfl, hb2⟩
      rw [Hy.out]
      simp only
      go_wp2
      go_ret
      exact ⟨ret_bool (by rw [Hf.out]; rfl), belN hb1 hb2⟩

/-- An entry is right by itself. -/
noncomputable def entOkB (e : EntD) : Bool := nameOkB e.s && ((hashI e.s == e.h) && (inI e.i 0 12 && inI e.d 1 100000))
/-- A directory is right. -/
def DirP (ds : List EntD) : Prop := ds.length ≤ 12 ∧ ∀ i (h : i < ds.length), entOkB ds[i] = true ∧ (∀ (h1 : 0 < i), behB ds[i] (ds[i - 1]'(by omega)).h (ds[i - 1]'(by omega)).i = true) ∧ ∀ k (hk : k < i), keyB (ds[k]'(by omega)).s ≠ keyB ds[i].s
noncomputable def dirOkB (ds : List EntD) : Bool := @decide (DirP ds) (Classical.propDecidable _)
theorem dirOkB_iff {ds : List EntD} : dirOkB ds = true ↔ DirP ds := @decide_eq_true_iff _ (Classical.propDecidable _)
theorem dirOkB_true {ds : List EntD} (h : DirP ds) : dirOkB ds = true := dirOkB_iff.2 h
theorem dirOkB_false {ds : List EntD} (h : ¬ DirP ds) : dirOkB ds = false := by
  cases hb : dirOkB ds
  · rfl
  · exact absurd (dirOkB_iff.1 hb) h

end Go.Proofs.YthdbomkddpnhaaaGreatDoor
