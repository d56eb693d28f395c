/- Right directories: plain table, the program, the reference. -/
import Derived.Test.YtghgafbfpejinaaGreatDoorRApart
import Derived.Test.YtghgafbfpejinaaGreatDoorRPgOk
import Derived.Test.YtghgafbfpejinaaGreatDoorRStrRows
namespace Go.Proofs.YtghgafbfpejinaaGreatDoor
open Go Go.RowKit

/-- A text stands among others. -/
def memB (xs : List ByteArray) (q : ByteArray) : Bool := xs.any fun y => q.toList == y.toList
theorem memB_iff {xs : List ByteArray} {q : ByteArray} : memB xs q = true ↔ q ∈ xs := by
 unfold memB
 rw [List.any_eq_true]
 constructor
 ·rintro ⟨y, hy, h⟩
  rw [beq_iff_eq, ByteArray.toList_eq, ByteArray.toList_eq] at h
  rw [bytes_ext h]; exact hy
 ·intro h; exact ⟨q, h, by simp⟩
theorem memB_no {xs : List ByteArray} {q : ByteArray} (h : memB xs q = false) : q ∉ xs := fun hm => by rw [memB_iff.2 hm] at h; cases h
theorem memB_snoc (xs : List ByteArray) (y q : ByteArray) : memB (xs ++ [y]) q = (memB xs q || (q.toList == y.toList)) := by unfold memB; rw [List.any_append]; simp

set_option maxHeartbeats 1000000 in
theorem indexS_any (A : Option Addr) (n c : Nat) (xs : List ByteArray) (q : ByteArray) (hn : n ≤ 10000000) (w : World) (hr : Reads w w.heap.size 1 A n (SS xs)) :
  Calls Tryz.prog 119 #[.slice A n c, .string q] w fun e w' => ∃ r : Int, e = .returned (.int .i64 r) ∧ decide (0 ≤ r) = memB xs q ∧ w = w' := by
 have hl : xs.length = n := by have := hr.1; rw [SS_length] at this; omega
 have Hr := Lib.hid hr
 clear hr
 go_enter Tryz.func119, Tryz.ntmps119
 go_wp2
 go_loop [8] (fun i => ∃ (j : Nat), j ≤ n ∧ i = .int .i64 j ∧ Hid (memB (xs.take j) q = false))
  (fun i => n - (intOf i).toNat)
 case atStart => exact ⟨0, by omega, rfl, rfl⟩
 case round =>
  obtain ⟨j, hj, rfl, hno⟩ := hrel
  by_cases hlt : j < n
  ·obtain ⟨hkx, ad, rfl, hadb, z0⟩ := reads_str Hr.out hlt
   have q0 : (0 : Int) ≤ ↑j := by omega
   have q1 : (↑j : Int) < ↑n := by omega
   have Hs := Lib.hid (List.take_succ_eq_append_getElem hkx)
   have Hm := Lib.hid (List.getElem_mem hkx)
   obtain ⟨x, hx⟩ : ∃ x, xs[j] = x := ⟨_, rfl⟩
   rw [hx] at z0 Hs Hm
   clear hx
   rcases he : (q.toList == x.toList) with _ | _
   ·have Hn := Lib.hid (show memB (xs.take (j + 1)) q = false by rw [Hs.out, memB_snoc, hno.out, he]; rfl)
    go_wp2
    go_round
    case rel => exact ⟨j + 1, by omega, by go_num, Hn.out⟩
    case measure => simp [intOf]; omega
   ·have Hn := Lib.hid (show memB xs q = true from List.any_eq_true.2 ⟨x, Hm.out, he⟩)
    go_wp2
    go_ret
    exact ⟨_, rfl, by rw [Hn.out]; simp, rfl⟩
  ·have Hn := Lib.hid (show memB xs q = false by have := hno.out; rwa [List.take_of_length_le (by omega)] at this)
   go_wp2
   go_ret
   exact ⟨_, rfl, by rw [Hn.out]; rfl, rfl⟩

set_option maxHeartbeats 1000000 in
theorem containsS_any (A : Option Addr) (n c : Nat) (xs : List ByteArray) (q : ByteArray) (hn : n ≤ 10000000) (w : World) (hr : Reads w w.heap.size 1 A n (SS xs)) :
  Calls Tryz.prog 96 #[.slice A n c, .string q] w fun e w' => e = .returned (.bool (memB xs q)) ∧ w = w' := by
 have Hr := Lib.hid hr
 clear hr
 go_enter Tryz.func96, Tryz.ntmps96
 go_wp2_with fail
 refine (indexS_any A n c xs q hn _ Hr.out).mono ?_
 rintro e w' ⟨r, rfl, hr, rfl⟩
 have Hd := Lib.hid hr
 clear hr
 go_wp2
 go_ret
 exact ⟨ret_bool Hd.out, rfl⟩

theorem isId_any (x : Int) (w : World) : Calls Tryz.prog 78 #[.int .i64 x] w fun e w' => e = .returned (.bool (inI x 1 100000)) ∧ w = w' := by
 go_enter Tryz.func78, Tryz.ntmps78
 go_wp2_with (go_at_call 55; refine (within_any _ _ _ _).mono ?_; rintro e w' ⟨rfl, rfl⟩)
 go_ret
 exact ⟨rfl, rfl⟩

theorem alikeB_eq {a b : ByteArray} (ha : nameOkB a = true) (hb : nameOkB b = true) : alikeB a b = true ↔ keyB a = keyB b := by
 unfold alikeB
 rw [ha, hb]
 simp

set_option maxHeartbeats 1000000 in
theorem alike_spec (a b : ByteArray) (ha : a.size ≤ 2000000) (hb : b.size ≤ 2000000) (w : World) :
  Calls Tryz.prog 85 #[.string a, .string b] w fun e w' => e = .returned (.bool (alikeB a b)) ∧ Below w.heap.size w w' := by
 have Ka := Lib.hid (keyP_2 a)
 have Kb := Lib.hid (keyP_2 b)
 obtain ⟨x, p, hx⟩ : ∃ x p, keyP a = (x, p) := ⟨_, _, rfl⟩
 obtain ⟨y, q, hy⟩ : ∃ y q, keyP b = (y, q) := ⟨_, _, rfl⟩
 have Hx := Lib.hid hx
 have Hy := Lib.hid hy
 have hf : ∀ z : Bool, (x.toList == y.toList) = z → alikeB a b = (p && (q && z)) := by
  intro z hz
  have hp : nameOkB a = p := by rw [← keyP_2, hx]
  have hq : nameOkB b = q := by rw [← keyP_2, hy]
  unfold alikeB
  rw [hp, hq]
  cases p
  ·rfl
  ·cases q
   ·rfl
   ·rw [keyP_ok hp] at hx
    rw [keyP_ok hq] at hy
    injection hx with hx _
    injection hy with hy _
    rw [hx, hy]
    cases z
    ·rw [beq_eq_false_iff_ne, ne_eq, ByteArray.toList_eq, ByteArray.toList_eq] at hz
     simp only [Bool.true_and, decide_eq_false_iff_not]
     exact fun e => hz (by rw [e])
    ·rw [beq_iff_eq, ByteArray.toList_eq, ByteArray.toList_eq] at hz
     simp [bytes_ext hz]
 clear hx hy
 rcases hz : (x.toList == y.toList) with _ | _
 all_goals
  have Hf := Lib.hid (hf _ hz)
  cases p <;> cases q
  all_goals
   clear hf
   go_enter Tryz.func85, Tryz.ntmps85
   go_wp2_with fail
   refine (keyOf_spec a ha _).mono ?_
   rintro e w1 ⟨rfl, hb1⟩
   rw [Hx.out]
   simp only
   go_wp2_with fail
   refine (keyOf_spec b hb _).mono ?_
   rintro e w2 ⟨rfl, hb2⟩
   rw [Hy.out]
   simp only
   go_wp2
   go_ret
   exact ⟨ret_bool (by rw [Hf.out]; rfl), belN hb1 hb2⟩

/-- An entry is right by itself. -/
noncomputable def entOkB (e : EntD) : Bool := nameOkB e.s && ((hashI e.s == e.h) && (inI e.i 0 12 && inI e.d 1 100000))
/-- A directory is right. -/
def DirP (ds : List EntD) : Prop := ds.length ≤ 12 ∧ ∀ i (h : i < ds.length), entOkB ds[i] = true ∧ (∀ (h1 : 0 < i), behB ds[i] (ds[i - 1]'(by omega)).h (ds[i - 1]'(by omega)).i = true) ∧ ∀ k (hk : k < i), keyB (ds[k]'(by omega)).s ≠ keyB ds[i].s
noncomputable def dirOkB (ds : List EntD) : Bool := @decide (DirP ds) (Classical.propDecidable _)
theorem dirOkB_iff {ds : List EntD} : dirOkB ds = true ↔ DirP ds := @decide_eq_true_iff _ (Classical.propDecidable _)
theorem dirOkB_true {ds : List EntD} (h : DirP ds) : dirOkB ds = true := dirOkB_iff.2 h
theorem dirOkB_false {ds : List EntD} (h : ¬ DirP ds) : dirOkB ds = false := by
 cases hb : dirOkB ds
 ·rfl
 ·exact absurd (dirOkB_iff.1 hb) h

/-- An entry stands right in its directory. -/
def GoodAt (ds : List EntD) (i : Nat) : Prop := ∃ h : i < ds.length, entOkB ds[i] = true ∧ (∀ (h1 : 0 < i), behB ds[i] (ds[i - 1]'(by omega)).h (ds[i - 1]'(by omega)).i = true) ∧ ∀ k (hk : k < i), keyB (ds[k]'(by omega)).s ≠ keyB ds[i].s
theorem dirP_iff {ds : List EntD} : DirP ds ↔ ds.length ≤ 12 ∧ ∀ i, i < ds.length → GoodAt ds i :=
 ⟨fun h => ⟨h.1, fun i hi => ⟨hi, h.2 i hi⟩⟩, fun h => ⟨h.1, fun i hi => by obtain ⟨_, h2⟩ := h.2 i hi; exact h2⟩⟩
theorem not_good {ds : List EntD} {i : Nat} (hi : i < ds.length) (h : ¬ GoodAt ds i) : dirOkB ds = false := dirOkB_false fun hp => h ((dirP_iff.1 hp).2 i hi)
theorem entOk_parts {e : EntD} (h : entOkB e = true) : nameOkB e.s = true ∧ (hashI e.s == e.h) = true ∧ inI e.i 0 12 = true ∧ inI e.d 1 100000 = true := by
 unfold entOkB at h
 simpa [Bool.and_eq_true] using h
theorem crc_q (s : ByteArray) (hs : s.size ≤ 1000000000) (w : World) : Calls Tryz.prog 95 #[.string s] w fun e w' => e = .returned (.int .i64 (crcB s)) ∧ w' = w :=
 (crc_impl s hs w).mono fun _ _ ⟨he, hw⟩ => ⟨he, hw.symm⟩
theorem containsS_q (A : Option Addr) (n c : Nat) (xs : List ByteArray) (q : ByteArray) (hn : n ≤ 10000000) (w : World) (hr : Reads w w.heap.size 1 A n (SS xs)) :
  Calls Tryz.prog 96 #[.slice A n c, .string q] w fun e w' => e = .returned (.bool (memB xs q)) ∧ w' = w :=
 (containsS_any A n c xs q hn w hr).mono fun _ _ ⟨he, hw⟩ => ⟨he, hw.symm⟩
theorem within_q (a b c : Int) (w : World) : Calls Tryz.prog 55 #[.int .i64 a, .int .i64 b, .int .i64 c] w fun e w' => e = .returned (.bool (inI a b c)) ∧ w' = w :=
 (within_any a b c w).mono fun _ _ ⟨he, hw⟩ => ⟨he, hw.symm⟩
theorem isId_q (x : Int) (w : World) : Calls Tryz.prog 78 #[.int .i64 x] w fun e w' => e = .returned (.bool (inI x 1 100000)) ∧ w' = w :=
 (isId_any x w).mono fun _ _ ⟨he, hw⟩ => ⟨he, hw.symm⟩
/-- The keys of the first so many. -/
noncomputable def keysL (ds : List EntD) (k : Nat) : List ByteArray := (ds.take k).map fun e => keyB e.s
theorem keysL_len (ds : List EntD) (k : Nat) (h : k ≤ ds.length) : (keysL ds k).length = k := by unfold keysL; rw [List.length_map, List.length_take]; omega
theorem keysL_succ (ds : List EntD) (k : Nat) (h : k < ds.length) : keysL ds (k + 1) = keysL ds k ++ [keyB ds[k].s] := by
 unfold keysL; rw [List.take_succ_eq_append_getElem h, List.map_append]; rfl
theorem keys_mem {ds : List EntD} {k : Nat} (h : k < ds.length) {q : ByteArray} : q ∈ keysL ds k ↔ ∃ j, ∃ hj : j < k, keyB (ds[j]'(by omega)).s = q := by
 unfold keysL
 rw [List.mem_map]
 constructor
 ·rintro ⟨e, he, rfl⟩
  obtain ⟨j, hj, rfl⟩ := List.getElem_of_mem he
  rw [List.length_take] at hj
  exact ⟨j, by omega, by rw [List.getElem_take]⟩
 ·rintro ⟨j, hj, rfl⟩
  exact ⟨ds[j]'(by omega), List.mem_iff_getElem.2 ⟨j, by rw [List.length_take]; omega, by rw [List.getElem_take]⟩, rfl⟩
theorem own_dN {w : World} {base : Nat} {e : TypeId} {size n : Nat} {v : Value} {xs : List Value} (h : w.ownsRow base e size v n xs) (k : Nat) : (w.drewN k).ownsRow base e size v n xs := h
theorem own_d {w : World} {base : Nat} {e : TypeId} {size n : Nat} {v : Value} {xs : List Value} (h : w.ownsRow base e size v n xs) : w.drew.ownsRow base e size v n xs := h

set_option maxRecDepth 100000 in
set_option maxHeartbeats 8000000 in
theorem dirOk_impl (A : Option Addr) (n c : Nat) (ds : List EntD) (hz : ∀ e ∈ ds, e.s.size ≤ 2000000) (w : World) (hT : Tab w) (hn : n ≤ 9223372036854775807) (hr : Reads w w.heap.size 4 A n (ES ds)) :
  Calls Tryz.prog 56 #[.slice A n c] w fun e w' => e = .returned (.bool (dirOkB ds)) ∧ Below w.heap.size w w' := by
 have hl : ds.length = n := by have := hr.1; rw [ES_length] at this; omega
 have Hr := Lib.hid hr
 have HT := Lib.hid hT
 have Hz := Lib.hid hz
 have HL := Lib.hid hl
 clear hr hT hz hl
 by_cases h12 : 12 < n
 ·have Hf := Lib.hid (dirOkB_false (ds := ds) fun hp => by have := hp.1; have := HL.out; omega)
  go_enter Tryz.func56, Tryz.ntmps56
  go_wp2
  go_ret
  exact ⟨ret_bool Hf.out.symm, bel0 w⟩
 go_enter Tryz.func56, Tryz.ntmps56
 go_wp2
 go_loopw [3, 14] (fun v i wr => ∃ (k : Nat) (I : Int), k ≤ n ∧ i = .int .i64 I ∧ Hid (I = k) ∧ wr.ownsRow w.heap.size 9 1 v k (SS (keysL ds k)) ∧ Hid (∀ j, j < k → GoodAt ds j) ∧ Below w.heap.size w wr)
  (fun _ i _ => n - (intOf i).toNat)
 case atStart => exact ⟨0, 0, by omega, rfl, rfl, World.ownsRow_lit w #[] 0 (Nat.le_refl _) (by unfold maxLen; omega) rfl, fun j hj => absurd hj (by omega), belA (bel0 w) _⟩
 case round =>
  obtain ⟨k, I, hk, rfl, HI, hown, hgood, hbel⟩ := hrel
  have hsz := hbel.size
  have hI := HI.out
  have hi0 : 0 ≤ I := by omega
  have hi2 : I ≤ 12 := by omega
  by_cases hlt : k < n
  ·have hi1 : I < (n : Int) := by omega
   have ht1 : I.toNat = k := by omega
   obtain ⟨hkx, b, o, rfl, hadb, z0, z1, z2, z3⟩ := reads_ent (Hr.out.below hbel) hlt
   have hszk := Hz.out _ (List.getElem_mem hkx)
   have Hks := Lib.hid (keysL_succ ds k hkx)
   have Hkl := Lib.hid (keysL_len ds k (by omega))
   have HDx : ∃ e, ds[k] = e := ⟨_, rfl⟩
   obtain ⟨e, he⟩ := HDx
   have He := Lib.hid he
   rw [he] at z0 z1 z2 z3 hszk Hks
   have bad : entOkB e = false → dirOkB ds = false := fun h => not_good hkx fun hg => by obtain ⟨_, h2, _⟩ := hg; rw [He.out, h] at h2; cases h2
   have dup : memB (keysL ds k) (keyB e.s) = true → dirOkB ds = false := fun h => not_good hkx fun hg => by
    obtain ⟨_, _, _, h2⟩ := hg
    obtain ⟨j, hj, he2⟩ := (keys_mem hkx).1 (memB_iff.1 h)
    exact h2 j hj (by rw [He.out]; exact he2)
   have Bad := Lib.hid bad
   have Dup := Lib.hid dup
   obtain ⟨KV, ok, hkv⟩ : ∃ KV ok, keyP e.s = (KV, ok) := ⟨_, _, rfl⟩
   have Hkv := Lib.hid hkv
   have hKz := keyP_size e.s
   have Hno := Lib.hid (keyP_2 e.s)
   rw [hkv] at hKz
   simp only at hKz
   obtain ⟨eh, ei, es, ed⟩ := e
   simp only at z0 z1 z2 z3 hszk
   have hne : b ≠ wr.heap.size := by omega
   clear hI bad dup he hkv
   go_wp2_with fail
   refine (keyOf_impl es hszk _ ((HT.out.below hbel HT.out.pos).al _)).mono ?_
   rintro e w1 ⟨rfl, hb1⟩
   rw [show keyP es = (KV, ok) from Hkv.out]
   simp only
   have hB := (Blk.new' wr 66 #[.int .i64 eh, .int .i64 ei, .string es, .int .i64 ed] wr.heap.size).below hb1 (by simp)
   have b1 := belN (belA hbel _) hb1
   have own1 := own_below (hown.alloc (.cells #[.int .i64 eh, .int .i64 ei, .string es, .int .i64 ed] 66)) hb1 (Nat.le_refl _)
   obtain ⟨A3, c3, rfl, _, _, hr3⟩ := own_vals own1
   have hblt := hB.lt
   have y0 := hB.get (x := .int .i64 eh) 0 rfl
   have y1 := hB.get (x := .int .i64 ei) 1 rfl
   have y2 := hB.get (x := .string es) 2 rfl
   have y3 := hB.get (x := .int .i64 ed) 3 rfl
   have Hr3 := Lib.hid hr3
   have Own1 := Lib.hid own1
   have hk12 : k ≤ 12 := by omega
   clear hown own1 hr3 z0 z1 z2 z3
   cases ok
   ·have Hf := Lib.hid (Bad.out (by unfold entOkB; rw [← Hno.out, Hkv.out]; rfl))
    go_wp2_with fail
    go_quiet ((first
    | (go_at_call 95; exact Calls.quiet_of_same (crc_q _ (by omega) _))
    | (go_at_call 96; exact Calls.quiet_of_same (containsS_q _ _ _ _ _ (by omega) _ (Hr3.out.drewN _)))
    | (go_at_call 55; exact Calls.quiet_of_same (within_q _ _ _ _))
    | (go_at_call 78; exact Calls.quiet_of_same (isId_q _ _))))
    go_wp2
    go_ret
    exact ⟨ret_bool Hf.out.symm, below_drewN b1 _⟩
   have hnm := Lib.hid (show nameOkB es = true by have := Hno.out; rw [Hkv.out] at this; exact this.symm)
   have hKB := Lib.hid (show KV = keyB es by have := keyP_ok hnm.out; rw [Hkv.out] at this; injection this)
   have hcb := crcB_bd KV
   obtain ⟨hcb0, hcb1⟩ := hcb
   have hcr := Lib.hid (show hashI es = crcB KV % 16 by rw [hashI_ok hnm.out, hKB.out])
   rcases hh : (crcB KV % 16 != eh) with _ | _
   rotate_left
   ·have Hf := Lib.hid (Bad.out (by unfold entOkB; rw [hcr.out, show (crcB KV % 16 == eh) = false by simpa [bne] using hh]; simp))
    go_wp2_with fail
    go_quiet ((first
    | (go_at_call 95; exact Calls.quiet_of_same (crc_q _ (by omega) _))
    | (go_at_call 96; exact Calls.quiet_of_same (containsS_q _ _ _ _ _ (by omega) _ (Hr3.out.drewN _)))
    | (go_at_call 55; exact Calls.quiet_of_same (within_q _ _ _ _))
    | (go_at_call 78; exact Calls.quiet_of_same (isId_q _ _))))
    go_wp2
    go_ret
    exact ⟨ret_bool Hf.out.symm, below_drewN b1 _⟩
   rcases hm : memB (keysL ds k) KV with _ | _
   rotate_left
   ·have Hf := Lib.hid (Dup.out (by rw [← hKB.out]; exact hm))
    go_wp2_with fail
    go_quiet ((first
    | (go_at_call 95; exact Calls.quiet_of_same (crc_q _ (by omega) _))
    | (go_at_call 96; exact Calls.quiet_of_same (containsS_q _ _ _ _ _ (by omega) _ (Hr3.out.drewN _)))
    | (go_at_call 55; exact Calls.quiet_of_same (within_q _ _ _ _))
    | (go_at_call 78; exact Calls.quiet_of_same (isId_q _ _))))
    go_wp2
    go_ret
    exact ⟨ret_bool Hf.out.symm, below_drewN b1 _⟩
   rcases hx : inI ei 0 12 with _ | _
   ·have Hf := Lib.hid (Bad.out (by unfold entOkB; rw [hx]; simp))
    go_wp2_with fail
    go_quiet ((first
    | (go_at_call 95; exact Calls.quiet_of_same (crc_q _ (by omega) _))
    | (go_at_call 96; exact Calls.quiet_of_same (containsS_q _ _ _ _ _ (by omega) _ (Hr3.out.drewN _)))
    | (go_at_call 55; exact Calls.quiet_of_same (within_q _ _ _ _))
    | (go_at_call 78; exact Calls.quiet_of_same (isId_q _ _))))
    go_wp2
    go_ret
    exact ⟨ret_bool Hf.out.symm, below_drewN b1 _⟩
   rcases hd : inI ed 1 100000 with _ | _
   ·have Hf := Lib.hid (Bad.out (by unfold entOkB; rw [hd]; simp))
    go_wp2_with fail
    go_quiet ((first
    | (go_at_call 95; exact Calls.quiet_of_same (crc_q _ (by omega) _))
    | (go_at_call 96; exact Calls.quiet_of_same (containsS_q _ _ _ _ _ (by omega) _ (Hr3.out.drewN _)))
    | (go_at_call 55; exact Calls.quiet_of_same (within_q _ _ _ _))
    | (go_at_call 78; exact Calls.quiet_of_same (isId_q _ _))))
    go_wp2
    go_ret
    exact ⟨ret_bool Hf.out.symm, below_drewN b1 _⟩
   have Hok := Lib.hid (show entOkB ⟨eh, ei, es, ed⟩ = true by
    unfold entOkB; rw [hnm.out, hcr.out, hx, hd, show (crcB KV % 16 == eh) = true by simpa [bne] using hh]; rfl)
   have Hmem := Lib.hid hm
   go_wp2_with fail
   go_quiet ((first
    | (go_at_call 95; exact Calls.quiet_of_same (crc_q _ (by omega) _))
    | (go_at_call 96; exact Calls.quiet_of_same (containsS_q _ _ _ _ _ (by omega) _ (Hr3.out.drewN _)))
    | (go_at_call 55; exact Calls.quiet_of_same (within_q _ _ _ _))
    | (go_at_call 78; exact Calls.quiet_of_same (isId_q _ _))))
   rename Nat => nq1
   clear hh hm hx hd
   rcases Nat.eq_zero_or_pos k with hk0 | hk0
   ·have hI0 : decide (0 < I) = false := by have := HI.out; simp; omega
    have Hgd := Lib.hid (show GoodAt ds k from ⟨hkx, by rw [He.out]; exact Hok.out, fun h => absurd h (by omega), fun j hj => absurd hj (by omega)⟩)
    have hbase := b1.size
    go_wp2_with fail
    go_quiet (fail)
    have own3 := own_dN Own1.out (nq1 + nq)
    have b3 := below_drewN b1 (nq1 + nq)
    go_wp2_with (at_builtin; go_must (refine wpList_app _ rfl _ _ _ rfl Tryz.el_str (own3.alloc _) rfl (reads_new _ _ _ _ 1 (by rfl)) rfl (by simp [Value.oneCell']) (max_small (by omega)) (by omega) (by simp; omega) ?_); intro v5 w5 own5 hg5 _ hb5)
    go_roundw
    case rel =>
     refine ⟨k + 1, I + 1, by omega, by go_num, by have := HI.out; show _ = _; omega, ?_, fun j hj => ?_, (belA b3 _).trans hb5⟩
     ·rw [Hks.out, ← hKB.out, SS_append]; exact own5
     ·rcases Nat.lt_or_ge j k with h | h
      ·exact hgood.out j h
      ·rw [show j = k by omega]; exact Hgd.out
    case measure => simp [intOf]; omega
   ·obtain ⟨p, hp⟩ : ∃ p, k = p + 1 := ⟨k - 1, by omega⟩
    have Hp := Lib.hid hp
    have hbelw := (belA hbel (.cells #[.int .i64 eh, .int .i64 ei, .string es, .int .i64 ed] 66)).trans (hb1.mono (by simp; omega))
    obtain ⟨hpx, b', o', he', _, x0, x1, _, _⟩ := reads_ent (Hr.out.below hbelw) (k := p) (by omega)
    injection he' with he'
    injection he' with e1 e2
    subst e1
    subst e2
    have w1' : IntKind.i64.wrap (I - 1) = (p : Int) := by rw [IntWalk.i64_in _ (by omega)]; have := HI.out; omega
    have w2' : I - 1 = (p : Int) := by have := HI.out; omega
    have w3' : IntKind.i64.wrap (p : Int) = (p : Int) := IntWalk.i64_in _ (by omega)
    have p0 : (0 : Int) ≤ ↑p := by omega
    have p1 : (p : Int) < ↑n := by omega
    have hI2 : 0 < I := by have := HI.out; omega
    have hne2 : b ≠ wr.heap.size := by omega
    clear hp
    rcases hbh : behB ⟨eh, ei, es, ed⟩ ds[p].h ds[p].i with _ | _
    ·have Hf := Lib.hid (not_good hkx fun hg => by
      obtain ⟨_, _, h3, _⟩ := hg
      have h4 := h3 hk0
      have hpp : k - 1 = p := by have := Hp.out; omega
      simp only [hpp, He.out] at h4
      rw [hbh] at h4; cases h4)
     go_wp2_with fail
     go_region_held3 (fun w' => w'.cell? ⟨wr.heap.size, 0, none⟩ = some (.int .i64 eh) ∧ w'.cell? ⟨wr.heap.size, 1, none⟩ = some (.int .i64 ei) ∧ w'.cell? ⟨wr.heap.size, 2, none⟩ = some (.string es) ∧ w'.cell? ⟨wr.heap.size, 3, none⟩ = some (.int .i64 ed) ∧ w'.cell? ⟨b, o + p * 4, none⟩ = some (.int .i64 ds[p].h) ∧ w'.cell? ⟨b, o + p * 4 + 1, none⟩ = some (.int .i64 ds[p].i))
      (first | go_keep | (refine ⟨keep1 hb9 ?_, keep1 hb9 ?_, keep1 hb9 ?_, keep1 hb9 ?_, keep1 hb9 ?_, keep1 hb9 ?_⟩ <;> go_keep))
      (first
       | (go_at_call 97; refine (isBehind_any ⟨eh, ei, es, ed⟩ _ _ _).mono ?_; rintro e w9 ⟨rfl, hb9⟩))
     go_wp2
     go_ret
     exact ⟨ret_bool Hf.out.symm, belN (below_drewN b1 _).drew hb9⟩
    ·have Hgd := Lib.hid (show GoodAt ds k from by
      refine ⟨hkx, by rw [He.out]; exact Hok.out, fun h1 => ?_, fun j hj he2 => ?_⟩
      ·have hpp : k - 1 = p := by have := Hp.out; omega
       simp only [hpp, He.out]; exact hbh
      ·rw [He.out] at he2
       exact memB_no Hmem.out ((keys_mem hkx).2 ⟨j, hj, by rw [hKB.out]; exact he2⟩))
     go_wp2_with fail
     go_region_held3 (fun w' => w'.cell? ⟨wr.heap.size, 0, none⟩ = some (.int .i64 eh) ∧ w'.cell? ⟨wr.heap.size, 1, none⟩ = some (.int .i64 ei) ∧ w'.cell? ⟨wr.heap.size, 2, none⟩ = some (.string es) ∧ w'.cell? ⟨wr.heap.size, 3, none⟩ = some (.int .i64 ed) ∧ w'.cell? ⟨b, o + p * 4, none⟩ = some (.int .i64 ds[p].h) ∧ w'.cell? ⟨b, o + p * 4 + 1, none⟩ = some (.int .i64 ds[p].i))
      (first | go_keep | (refine ⟨keep1 hb9 ?_, keep1 hb9 ?_, keep1 hb9 ?_, keep1 hb9 ?_, keep1 hb9 ?_, keep1 hb9 ?_⟩ <;> go_keep))
      (first
       | (go_at_call 97; refine (isBehind_any ⟨eh, ei, es, ed⟩ _ _ _).mono ?_; rintro e w9 ⟨rfl, hb9⟩))
     have own9 := own_below (own_d (own_dN Own1.out nq1)) hb9 (Nat.le_refl _)
     have hbase : w.heap.size ≤ w9.heap.size := Nat.le_trans b1.size hb9.size
     clear x0 x1 y0 y1 y2 y3
     go_wp2_with (at_builtin; go_must (refine wpList_app _ rfl _ _ _ rfl Tryz.el_str (own9.alloc _) rfl (reads_new _ _ _ _ 1 (by rfl)) rfl (by simp [Value.oneCell']) (max_small (by omega)) (by omega) (by simp; omega) ?_); intro v5 w5 own5 hg5 _ hb5)
     go_roundw
     case rel =>
      refine ⟨k + 1, I + 1, by omega, by go_num, by have := HI.out; show _ = _; omega, ?_, fun j hj => ?_, (belA (belN (below_drewN b1 _).drew hb9) _).trans hb5⟩
      ·rw [Hks.out, ← hKB.out, SS_append]; exact own5
      ·rcases Nat.lt_or_ge j k with h | h
       ·exact hgood.out j h
       ·rw [show j = k by omega]; exact Hgd.out
     case measure => simp [intOf]; omega
  ·obtain rfl : k = n := by omega
   have Hf := Lib.hid (dirOkB_true (dirP_iff.2 ⟨by have := HL.out; omega, fun i hi => hgood.out i (by have := HL.out; omega)⟩))
   clear hI
   have hi1 : ¬ I < (k : Int) := by have := HI.out; omega
   go_wp2
   go_ret
   exact ⟨ret_bool Hf.out.symm, hbel⟩

set_option maxRecDepth 100000 in
set_option maxHeartbeats 8000000 in
theorem dirOk_spec (A : Option Addr) (n c : Nat) (ds : List EntD) (hz : ∀ e ∈ ds, e.s.size ≤ 2000000) (w : World) (hn : n ≤ 9223372036854775807) (hr : Reads w w.heap.size 4 A n (ES ds)) :
  Calls Tryz.prog 41 #[.slice A n c] w fun e w' => e = .returned (.bool (dirOkB ds)) ∧ Below w.heap.size w w' := by
 have hl : ds.length = n := by have := hr.1; rw [ES_length] at this; omega
 have Hr := Lib.hid hr
 have Hz := Lib.hid hz
 have HL := Lib.hid hl
 clear hr hz hl
 by_cases h12 : 12 < n
 ·have Hf := Lib.hid (dirOkB_false (ds := ds) fun hp => by have := hp.1; have := HL.out; omega)
  go_enter Tryz.func41, Tryz.ntmps41
  go_wp2
  go_ret
  exact ⟨ret_bool Hf.out.symm, bel0 w⟩
 go_enter Tryz.func41, Tryz.ntmps41
 go_wp2
 go_loopw [3] (fun i wr => ∃ (k : Nat) (I : Int), k ≤ n ∧ i = .int .i64 I ∧ Hid (I = k) ∧ Hid (∀ j, j < k → GoodAt ds j) ∧ Below w.heap.size w wr)
  (fun i _ => n - (intOf i).toNat)
 case atStart => exact ⟨0, 0, by omega, rfl, rfl, fun j hj => absurd hj (by omega), bel0 w⟩
 case round =>
  obtain ⟨k, I, hk, rfl, HI, hgood, hbel⟩ := hrel
  have hsz := hbel.size
  have hI := HI.out
  have hi0 : 0 ≤ I := by omega
  have hi2 : I ≤ 12 := by omega
  by_cases hlt : k < n
  ·have hi1 : I < (n : Int) := by omega
   have ht1 : I.toNat = k := by omega
   obtain ⟨hkx, b, o, rfl, hadb, z0, z1, z2, z3⟩ := reads_ent (Hr.out.below hbel) hlt
   have hszk := Hz.out _ (List.getElem_mem hkx)
   have HDx : ∃ e, ds[k] = e := ⟨_, rfl⟩
   obtain ⟨e, he⟩ := HDx
   have He := Lib.hid he
   rw [he] at z0 z1 z2 z3 hszk
   have bad : entOkB e = false → dirOkB ds = false := fun h => not_good hkx fun hg => by obtain ⟨_, h2, _⟩ := hg; rw [He.out, h] at h2; cases h2
   have Bad := Lib.hid bad
   obtain ⟨eh, ei, es, ed⟩ := e
   simp only at z0 z1 z2 z3 hszk
   have hne : b ≠ wr.heap.size := by omega
   clear hI bad he
   have hB := Blk.new' wr 66 #[.int .i64 eh, .int .i64 ei, .string es, .int .i64 ed] wr.heap.size
   have b1 := belA hbel (.cells #[.int .i64 eh, .int .i64 ei, .string es, .int .i64 ed] 66)
   have y0 := hB.get (x := .int .i64 eh) 0 rfl
   have y1 := hB.get (x := .int .i64 ei) 1 rfl
   have y2 := hB.get (x := .string es) 2 rfl
   have y3 := hB.get (x := .int .i64 ed) 3 rfl
   have hk12 : k ≤ 12 := by omega
   rcases hnm : nameOkB es with _ | _
   ·have Hf := Lib.hid (Bad.out (by unfold entOkB; rw [hnm]; rfl))
    go_wp2_with fail
    refine wp_region_held_drew (S := fun w' => w'.cell? ⟨wr.heap.size, 0, none⟩ = some (.int .i64 eh) ∧ w'.cell? ⟨wr.heap.size, 1, none⟩ = some (.int .i64 ei) ∧ w'.cell? ⟨wr.heap.size, 2, none⟩ = some (.string es) ∧ w'.cell? ⟨wr.heap.size, 3, none⟩ = some (.int .i64 ed)) (by kernel_rfl) ⟨y0, y1, y2, y3⟩ (fun hHeld => ?_)
    refine tkV_ 0 (v := ?v1) ?hy1 (by assumption) ?hr1
    case hy1 => refine Or.inl ⟨by rfl, ?_⟩; intro w hSw; (try dsimp only at hSw); go_simp; (try with_reducible rfl)
    simp only [Act.put, pT_, pZ_, pS_]
    refine tkV_ 1 (v := ?v2) ?hy2 (by assumption) ?hr2
    case hy2 => refine Or.inl ⟨by rfl, ?_⟩; intro w hSw; (try dsimp only at hSw); go_simp; (try with_reducible rfl)
    simp only [Act.put, pT_, pZ_, pS_]
    refine wpAnyH_ready (rs := [2]) (by kernel_rfl) (by simp) ?_
    refine AllReadyH.cons (o := ?oi3) ?hi3 (fun K hK => ?_) AllReadyH.nil
    case hi3 => (conv => lhs; simp only [gT_, gZ_, gS_]); try exact rfl
    go_simp
    go_at_call 82
    refine (nameOk_spec es hszk _).mono ?_
    rintro e w7 ⟨rfl, hb7⟩
    refine hK.out _ _ (by obtain ⟨a0, a1, a2, a3⟩ := hHeld; exact ⟨keep1 hb7 a0 (Nat.le_refl _), keep1 hb7 a1 (Nat.le_refl _), keep1 hb7 a2 (Nat.le_refl _), keep1 hb7 a3 (Nat.le_refl _)⟩) (fun hHeld3 => ?_)
    clear hK K
    clear hHeld
    refine tkV_ 3 (v := ?v4) ?hy4 (by assumption) ?hr4
    case hy4 => refine Or.inl ⟨by rfl, ?_⟩; intro w hSw; (try dsimp only at hSw); go_simp; (try with_reducible rfl)
    simp only [Act.put, pT_, pZ_, pS_]
    refine tkV_ 4 (v := ?v5) ?hy5 (by assumption) ?hr5
    case hy5 => refine Or.inl ⟨by rfl, ?_⟩; intro w hSw; (try dsimp only at hSw); go_simp; (try with_reducible rfl)
    simp only [Act.put, pT_, pZ_, pS_]
    refine tkU_ 5 (by assumption) ?hr6
    simp only [Act.put, pT_, pZ_, pS_]
    refine tkU_ 6 (by assumption) ?hr7
    simp only [Act.put, pT_, pZ_, pS_]
    refine tkU_ 7 (by assumption) ?hr8
    simp only [Act.put, pT_, pZ_, pS_]
    refine tkU_ 8 (by assumption) ?hr9
    simp only [Act.put, pT_, pZ_, pS_]
    refine tkU_ 9 (by assumption) ?hr10
    simp only [Act.put, pT_, pZ_, pS_]
    refine tkU_ 10 (by assumption) ?hr11
    simp only [Act.put, pT_, pZ_, pS_]
    refine tkV_ 11 (v := ?v12) ?hy12 (by assumption) ?hr12
    case hy12 => refine Or.inl ⟨by rfl, ?_⟩; intro w hSw; (try dsimp only at hSw); go_simp; (try with_reducible rfl)
    simp only [Act.put, pT_, pZ_, pS_]
    refine tkV_ 12 (v := ?v13) ?hy13 (by assumption) ?hr13
    case hy13 => refine Or.inl ⟨by rfl, ?_⟩; intro w hSw; (try dsimp only at hSw); go_simp; (try with_reducible rfl)
    simp only [Act.put, pT_, pZ_, pS_]
    refine tkU_ 13 (by assumption) ?hr14
    simp only [Act.put, pT_, pZ_, pS_]
    refine tkU_ 14 (by assumption) ?hr15
    simp only [Act.put, pT_, pZ_, pS_]
    refine tkU_ 15 (by assumption) ?hr16
    simp only [Act.put, pT_, pZ_, pS_]
    refine tkU_ 16 (by assumption) ?hr17
    simp only [Act.put, pT_, pZ_, pS_]
    refine tkV_ 17 (v := ?v18) ?hy18 (by assumption) ?hr18
    case hy18 => refine Or.inl ⟨by rfl, ?_⟩; intro w hSw; (try dsimp only at hSw); go_simp; (try with_reducible rfl)
    simp only [Act.put, pT_, pZ_, pS_]
    refine tkV_ 18 (v := ?v19) ?hy19 (by assumption) ?hr19
    case hy19 => refine Or.inl ⟨by rfl, ?_⟩; intro w hSw; (try dsimp only at hSw); go_simp; (try with_reducible rfl)
    simp only [Act.put, pT_, pZ_, pS_]
    refine tkU_ 19 (by assumption) ?hr20
    simp only [Act.put, pT_, pZ_, pS_]
    refine tkU_ 20 (by assumption) ?hr21
    simp only [Act.put, pT_, pZ_, pS_]
    refine tkU_ 21 (by assumption) ?hr22
    simp only [Act.put, pT_, pZ_, pS_]
    refine tkU_ 22 (by assumption) ?hr23
    simp only [Act.put, pT_, pZ_, pS_]
    refine tkV_ 23 (v := ?v24) ?hy24 (by assumption) ?hr24
    case hy24 => refine Or.inl ⟨by rfl, ?_⟩; intro w hSw; (try dsimp only at hSw); go_simp; (try with_reducible rfl)
    simp only [Act.put, pT_, pZ_, pS_]
    refine tkV_ 24 (v := ?v25) ?hy25 (by assumption) ?hr25
    case hy25 => refine Or.inl ⟨by rfl, ?_⟩; intro w hSw; (try dsimp only at hSw); go_simp; (try with_reducible rfl)
    simp only [Act.put, pT_, pZ_, pS_]
    refine tkU_ 25 (by assumption) ?hr26
    simp only [Act.put, pT_, pZ_, pS_]
    refine tkU_ 26 (by assumption) ?hr27
    simp only [Act.put, pT_, pZ_, pS_]
    refine tkU_ 27 (by assumption) ?hr28
    simp only [Act.put, pT_, pZ_, pS_]
    refine tkU_ 28 (by assumption) ?hr29
    simp only [Act.put, pT_, pZ_, pS_]
    refine tkU_ 29 (by assumption) ?hr30
    simp only [Act.put, pT_, pZ_, pS_]
    refine tkU_ 30 (by assumption) ?hr31
    simp only [Act.put, pT_, pZ_, pS_]
    refine tkU_ 31 (by assumption) ?hr32
    simp only [Act.put, pT_, pZ_, pS_]
    refine tkU_ 32 (by assumption) ?hr33
    simp only [Act.put, pT_, pZ_, pS_]
    refine tkU_ 33 (by assumption) ?hr34
    simp only [Act.put, pT_, pZ_, pS_]
    refine tkU_ 34 (by assumption) ?hr35
    simp only [Act.put, pT_, pZ_, pS_]
    refine tkU_ 35 (by assumption) ?hr36
    simp only [Act.put, pT_, pZ_, pS_]
    refine tkU_ 36 (by assumption) ?hr37
    simp only [Act.put, pT_, pZ_, pS_]
    refine tkU_ 37 (by assumption) ?hr38
    simp only [Act.put, pT_, pZ_, pS_]
    refine tkU_ 38 (by assumption) ?hr39
    simp only [Act.put, pT_, pZ_, pS_]
    refine tkU_ 39 (by assumption) ?hr40
    simp only [Act.put, pT_, pZ_, pS_]
    refine tkV_ 40 (v := ?v41) ?hy41 (by assumption) ?hr41
    case hy41 => refine Or.inl ⟨by rfl, ?_⟩; intro w hSw; (try dsimp only at hSw); go_simp; (try with_reducible rfl)
    simp only [Act.put, pT_, pZ_, pS_]
    refine wpAnyH_done (by kernel_rfl) ?_ _
    go_wp2
    go_ret
    exact ⟨ret_bool Hf.out.symm, belN b1.drew hb7⟩
   rcases hh : (eh != hashI es) with _ | _
   rotate_left
   ·have Hf := Lib.hid (Bad.out (by unfold entOkB; rw [show (hashI es == eh) = false by rw [beq_eq_false_iff_ne]; intro e; rw [e] at hh; simp at hh]; simp))
    go_wp2_with fail
    refine wp_region_held_drew (S := fun w' => w'.cell? ⟨wr.heap.size, 0, none⟩ = some (.int .i64 eh) ∧ w'.cell? ⟨wr.heap.size, 1, none⟩ = some (.int .i64 ei) ∧ w'.cell? ⟨wr.heap.size, 2, none⟩ = some (.string es) ∧ w'.cell? ⟨wr.heap.size, 3, none⟩ = some (.int .i64 ed)) (by kernel_rfl) ⟨y0, y1, y2, y3⟩ (fun hHeld => ?_)
    refine tkV_ 0 (v := ?v42) ?hy42 (by assumption) ?hr42
    case hy42 => refine Or.inl ⟨by rfl, ?_⟩; intro w hSw; (try dsimp only at hSw); go_simp; (try with_reducible rfl)
    simp only [Act.put, pT_, pZ_, pS_]
    refine tkV_ 1 (v := ?v43) ?hy43 (by assumption) ?hr43
    case hy43 => refine Or.inl ⟨by rfl, ?_⟩; intro w hSw; (try dsimp only at hSw); go_simp; (try with_reducible rfl)
    simp only [Act.put, pT_, pZ_, pS_]
    refine wpAnyH_ready (rs := [2]) (by kernel_rfl) (by simp) ?_
    refine AllReadyH.cons (o := ?oi44) ?hi44 (fun K hK => ?_) AllReadyH.nil
    case hi44 => (conv => lhs; simp only [gT_, gZ_, gS_]); try exact rfl
    go_simp
    go_at_call 82
    refine (nameOk_spec es hszk _).mono ?_
    rintro e w7 ⟨rfl, hb7⟩
    refine hK.out _ _ (by obtain ⟨a0, a1, a2, a3⟩ := hHeld; exact ⟨keep1 hb7 a0 (Nat.le_refl _), keep1 hb7 a1 (Nat.le_refl _), keep1 hb7 a2 (Nat.le_refl _), keep1 hb7 a3 (Nat.le_refl _)⟩) (fun hHeld44 => ?_)
    clear hK K
    clear hHeld
    refine tkV_ 3 (v := ?v45) ?hy45 (by assumption) ?hr45
    case hy45 => refine Or.inl ⟨by rfl, ?_⟩; intro w hSw; (try dsimp only at hSw); go_simp; (try with_reducible rfl)
    simp only [Act.put, pT_, pZ_, pS_]
    refine tkV_ 4 (v := ?v46) ?hy46 (by assumption) ?hr46
    case hy46 => refine Or.inl ⟨by rfl, ?_⟩; intro w hSw; (try dsimp only at hSw); go_simp; (try with_reducible rfl)
    simp only [Act.put, pT_, pZ_, pS_]
    refine tkV_ 5 (v := ?v47) ?hy47 (by assumption) ?hr47
    case hy47 => refine Or.inl ⟨by rfl, ?_⟩; intro w hSw; (try dsimp only at hSw); go_simp; (try with_reducible rfl)
    simp only [Act.put, pT_, pZ_, pS_]
    refine tkV_ 6 (v := ?v48) ?hy48 (by assumption) ?hr48
    case hy48 => refine Or.inl ⟨by rfl, ?_⟩; intro w hSw; (try dsimp only at hSw); go_simp; (try with_reducible rfl)
    simp only [Act.put, pT_, pZ_, pS_]
    refine tkV_ 7 (v := ?v49) ?hy49 (by assumption) ?hr49
    case hy49 => refine Or.inl ⟨by rfl, ?_⟩; intro w hSw; (try dsimp only at hSw); go_simp; (try with_reducible rfl)
    simp only [Act.put, pT_, pZ_, pS_]
    refine tkV_ 8 (v := ?v50) ?hy50 (by assumption) ?hr50
    case hy50 => refine Or.inl ⟨by rfl, ?_⟩; intro w hSw; (try dsimp only at hSw); go_simp; (try with_reducible rfl)
    simp only [Act.put, pT_, pZ_, pS_]
    refine wpAnyH_ready (rs := [9]) (by kernel_rfl) (by simp) ?_
    refine AllReadyH.cons (o := ?oi51) ?hi51 (fun K hK => ?_) AllReadyH.nil
    case hi51 => (conv => lhs; simp only [gT_, gZ_, gS_]); try exact rfl
    go_simp
    go_at_call 83
    refine (hashOf_spec es hszk _).mono ?_
    rintro e w8 ⟨rfl, hb8⟩
    refine hK.out _ _ (by obtain ⟨a0, a1, a2, a3⟩ := hHeld44; exact ⟨keep1 hb8 a0 (Nat.le_refl _), keep1 hb8 a1 (Nat.le_refl _), keep1 hb8 a2 (Nat.le_refl _), keep1 hb8 a3 (Nat.le_refl _)⟩) (fun hHeld51 => ?_)
    clear hK K
    clear hHeld44
    refine tkV_ 10 (v := ?v52) ?hy52 (by assumption) ?hr52
    case hy52 => refine Or.inl ⟨by rfl, ?_⟩; intro w hSw; (try dsimp only at hSw); go_simp; (try with_reducible rfl)
    simp only [Act.put, pT_, pZ_, pS_]
    refine tkV_ 11 (v := ?v53) ?hy53 (by assumption) ?hr53
    case hy53 => refine Or.inl ⟨by rfl, ?_⟩; intro w hSw; (try dsimp only at hSw); go_simp; (try with_reducible rfl)
    simp only [Act.put, pT_, pZ_, pS_]
    refine tkV_ 12 (v := ?v54) ?hy54 (by assumption) ?hr54
    case hy54 => refine Or.inl ⟨by rfl, ?_⟩; intro w hSw; (try dsimp only at hSw); go_simp; (try with_reducible rfl)
    simp only [Act.put, pT_, pZ_, pS_]
    refine tkU_ 13 (by assumption) ?hr55
    simp only [Act.put, pT_, pZ_, pS_]
    refine tkU_ 14 (by assumption) ?hr56
    simp only [Act.put, pT_, pZ_, pS_]
    refine tkU_ 15 (by assumption) ?hr57
    simp only [Act.put, pT_, pZ_, pS_]
    refine tkU_ 16 (by assumption) ?hr58
    simp only [Act.put, pT_, pZ_, pS_]
    refine tkV_ 17 (v := ?v59) ?hy59 (by assumption) ?hr59
    case hy59 => refine Or.inl ⟨by rfl, ?_⟩; intro w hSw; (try dsimp only at hSw); go_simp; (try with_reducible rfl)
    simp only [Act.put, pT_, pZ_, pS_]
    refine tkV_ 18 (v := ?v60) ?hy60 (by assumption) ?hr60
    case hy60 => refine Or.inl ⟨by rfl, ?_⟩; intro w hSw; (try dsimp only at hSw); go_simp; (try with_reducible rfl)
    simp only [Act.put, pT_, pZ_, pS_]
    refine tkU_ 19 (by assumption) ?hr61
    simp only [Act.put, pT_, pZ_, pS_]
    refine tkU_ 20 (by assumption) ?hr62
    simp only [Act.put, pT_, pZ_, pS_]
    refine tkU_ 21 (by assumption) ?hr63
    simp only [Act.put, pT_, pZ_, pS_]
    refine tkU_ 22 (by assumption) ?hr64
    simp only [Act.put, pT_, pZ_, pS_]
    refine tkV_ 23 (v := ?v65) ?hy65 (by assumption) ?hr65
    case hy65 => refine Or.inl ⟨by rfl, ?_⟩; intro w hSw; (try dsimp only at hSw); go_simp; (try with_reducible rfl)
    simp only [Act.put, pT_, pZ_, pS_]
    refine tkV_ 24 (v := ?v66) ?hy66 (by assumption) ?hr66
    case hy66 => refine Or.inl ⟨by rfl, ?_⟩; intro w hSw; (try dsimp only at hSw); go_simp; (try with_reducible rfl)
    simp only [Act.put, pT_, pZ_, pS_]
    refine tkU_ 25 (by assumption) ?hr67
    simp only [Act.put, pT_, pZ_, pS_]
    refine tkU_ 26 (by assumption) ?hr68
    simp only [Act.put, pT_, pZ_, pS_]
    refine tkU_ 27 (by assumption) ?hr69
    simp only [Act.put, pT_, pZ_, pS_]
    refine tkU_ 28 (by assumption) ?hr70
    simp only [Act.put, pT_, pZ_, pS_]
    refine tkU_ 29 (by assumption) ?hr71
    simp only [Act.put, pT_, pZ_, pS_]
    refine tkU_ 30 (by assumption) ?hr72
    simp only [Act.put, pT_, pZ_, pS_]
    refine tkU_ 31 (by assumption) ?hr73
    simp only [Act.put, pT_, pZ_, pS_]
    refine tkU_ 32 (by assumption) ?hr74
    simp only [Act.put, pT_, pZ_, pS_]
    refine tkU_ 33 (by assumption) ?hr75
    simp only [Act.put, pT_, pZ_, pS_]
    refine tkU_ 34 (by assumption) ?hr76
    simp only [Act.put, pT_, pZ_, pS_]
    refine tkU_ 35 (by assumption) ?hr77
    simp only [Act.put, pT_, pZ_, pS_]
    refine tkU_ 36 (by assumption) ?hr78
    simp only [Act.put, pT_, pZ_, pS_]
    refine tkU_ 37 (by assumption) ?hr79
    simp only [Act.put, pT_, pZ_, pS_]
    refine tkU_ 38 (by assumption) ?hr80
    simp only [Act.put, pT_, pZ_, pS_]
    refine tkU_ 39 (by assumption) ?hr81
    simp only [Act.put, pT_, pZ_, pS_]
    refine tkV_ 40 (v := ?v82) ?hy82 (by assumption) ?hr82
    case hy82 => refine Or.inl ⟨by rfl, ?_⟩; intro w hSw; (try dsimp only at hSw); go_simp; (try with_reducible rfl)
    simp only [Act.put, pT_, pZ_, pS_]
    refine wpAnyH_done (by kernel_rfl) ?_ _
    go_wp2
    go_ret
    exact ⟨ret_bool Hf.out.symm, belN (belN b1.drew hb7) hb8⟩
   have hhe := Lib.hid (show (hashI es == eh) = true by rw [beq_iff_eq]; have := hh; simp at this; exact this.symm)
   rcases hx : inI ei 0 12 with _ | _
   ·have Hf := Lib.hid (Bad.out (by unfold entOkB; rw [hx]; simp))
    go_wp2_with fail
    refine wp_region_held_drew (S := fun w' => w'.cell? ⟨wr.heap.size, 0, none⟩ = some (.int .i64 eh) ∧ w'.cell? ⟨wr.heap.size, 1, none⟩ = some (.int .i64 ei) ∧ w'.cell? ⟨wr.heap.size, 2, none⟩ = some (.string es) ∧ w'.cell? ⟨wr.heap.size, 3, none⟩ = some (.int .i64 ed)) (by kernel_rfl) ⟨y0, y1, y2, y3⟩ (fun hHeld => ?_)
    refine tkV_ 0 (v := ?v83) ?hy83 (by assumption) ?hr83
    case hy83 => refine Or.inl ⟨by rfl, ?_⟩; intro w hSw; (try dsimp only at hSw); go_simp; (try with_reducible rfl)
    simp only [Act.put, pT_, pZ_, pS_]
    refine tkV_ 1 (v := ?v84) ?hy84 (by assumption) ?hr84
    case hy84 => refine Or.inl ⟨by rfl, ?_⟩; intro w hSw; (try dsimp only at hSw); go_simp; (try with_reducible rfl)
    simp only [Act.put, pT_, pZ_, pS_]
    refine wpAnyH_ready (rs := [2]) (by kernel_rfl) (by simp) ?_
    refine AllReadyH.cons (o := ?oi85) ?hi85 (fun K hK => ?_) AllReadyH.nil
    case hi85 => (conv => lhs; simp only [gT_, gZ_, gS_]); try exact rfl
    go_simp
    go_at_call 82
    refine (nameOk_spec es hszk _).mono ?_
    rintro e w7 ⟨rfl, hb7⟩
    refine hK.out _ _ (by obtain ⟨a0, a1, a2, a3⟩ := hHeld; exact ⟨keep1 hb7 a0 (Nat.le_refl _), keep1 hb7 a1 (Nat.le_refl _), keep1 hb7 a2 (Nat.le_refl _), keep1 hb7 a3 (Nat.le_refl _)⟩) (fun hHeld85 => ?_)
    clear hK K
    clear hHeld
    refine tkV_ 3 (v := ?v86) ?hy86 (by assumption) ?hr86
    case hy86 => refine Or.inl ⟨by rfl, ?_⟩; intro w hSw; (try dsimp only at hSw); go_simp; (try with_reducible rfl)
    simp only [Act.put, pT_, pZ_, pS_]
    refine tkV_ 4 (v := ?v87) ?hy87 (by assumption) ?hr87
    case hy87 => refine Or.inl ⟨by rfl, ?_⟩; intro w hSw; (try dsimp only at hSw); go_simp; (try with_reducible rfl)
    simp only [Act.put, pT_, pZ_, pS_]
    refine tkV_ 5 (v := ?v88) ?hy88 (by assumption) ?hr88
    case hy88 => refine Or.inl ⟨by rfl, ?_⟩; intro w hSw; (try dsimp only at hSw); go_simp; (try with_reducible rfl)
    simp only [Act.put, pT_, pZ_, pS_]
    refine tkV_ 6 (v := ?v89) ?hy89 (by assumption) ?hr89
    case hy89 => refine Or.inl ⟨by rfl, ?_⟩; intro w hSw; (try dsimp only at hSw); go_simp; (try with_reducible rfl)
    simp only [Act.put, pT_, pZ_, pS_]
    refine tkV_ 7 (v := ?v90) ?hy90 (by assumption) ?hr90
    case hy90 => refine Or.inl ⟨by rfl, ?_⟩; intro w hSw; (try dsimp only at hSw); go_simp; (try with_reducible rfl)
    simp only [Act.put, pT_, pZ_, pS_]
    refine tkV_ 8 (v := ?v91) ?hy91 (by assumption) ?hr91
    case hy91 => refine Or.inl ⟨by rfl, ?_⟩; intro w hSw; (try dsimp only at hSw); go_simp; (try with_reducible rfl)
    simp only [Act.put, pT_, pZ_, pS_]
    refine wpAnyH_ready (rs := [9]) (by kernel_rfl) (by simp) ?_
    refine AllReadyH.cons (o := ?oi92) ?hi92 (fun K hK => ?_) AllReadyH.nil
    case hi92 => (conv => lhs; simp only [gT_, gZ_, gS_]); try exact rfl
    go_simp
    go_at_call 83
    refine (hashOf_spec es hszk _).mono ?_
    rintro e w8 ⟨rfl, hb8⟩
    refine hK.out _ _ (by obtain ⟨a0, a1, a2, a3⟩ := hHeld85; exact ⟨keep1 hb8 a0 (Nat.le_refl _), keep1 hb8 a1 (Nat.le_refl _), keep1 hb8 a2 (Nat.le_refl _), keep1 hb8 a3 (Nat.le_refl _)⟩) (fun hHeld92 => ?_)
    clear hK K
    clear hHeld85
    refine tkV_ 10 (v := ?v93) ?hy93 (by assumption) ?hr93
    case hy93 => refine Or.inl ⟨by rfl, ?_⟩; intro w hSw; (try dsimp only at hSw); go_simp; (try with_reducible rfl)
    simp only [Act.put, pT_, pZ_, pS_]
    refine tkV_ 11 (v := ?v94) ?hy94 (by assumption) ?hr94
    case hy94 => refine Or.inl ⟨by rfl, ?_⟩; intro w hSw; (try dsimp only at hSw); go_simp; (try with_reducible rfl)
    simp only [Act.put, pT_, pZ_, pS_]
    refine tkV_ 12 (v := ?v95) ?hy95 (by assumption) ?hr95
    case hy95 => refine Or.inl ⟨by rfl, ?_⟩; intro w hSw; (try dsimp only at hSw); go_simp; (try with_reducible rfl)
    simp only [Act.put, pT_, pZ_, pS_]
    refine tkV_ 13 (v := ?v96) ?hy96 (by assumption) ?hr96
    case hy96 => refine Or.inl ⟨by rfl, ?_⟩; intro w hSw; (try dsimp only at hSw); go_simp; (try with_reducible rfl)
    simp only [Act.put, pT_, pZ_, pS_]
    refine tkV_ 14 (v := ?v97) ?hy97 (by assumption) ?hr97
    case hy97 => refine Or.inl ⟨by rfl, ?_⟩; intro w hSw; (try dsimp only at hSw); go_simp; (try with_reducible rfl)
    simp only [Act.put, pT_, pZ_, pS_]
    refine wpAnyH_ready (rs := [15]) (by kernel_rfl) (by simp) ?_
    refine AllReadyH.cons (o := ?oi98) ?hi98 (fun K hK => ?_) AllReadyH.nil
    case hi98 => (conv => lhs; simp only [gT_, gZ_, gS_]); try exact rfl
    go_simp
    go_at_call 43
    refine (l1In_any _ _ _ _).mono ?_
    rintro e w' ⟨rfl, rfl⟩
    refine hK.out _ _ hHeld92 (fun hHeld98 => ?_)
    clear hK K
    refine tkV_ 16 (v := ?v99) ?hy99 (by assumption) ?hr99
    case hy99 => refine Or.inl ⟨by rfl, ?_⟩; intro w hSw; (try dsimp only at hSw); go_simp; (try with_reducible rfl)
    simp only [Act.put, pT_, pZ_, pS_]
    refine tkV_ 17 (v := ?v100) ?hy100 (by assumption) ?hr100
    case hy100 => refine Or.inl ⟨by rfl, ?_⟩; intro w hSw; (try dsimp only at hSw); go_simp; (try with_reducible rfl)
    simp only [Act.put, pT_, pZ_, pS_]
    refine tkV_ 18 (v := ?v101) ?hy101 (by assumption) ?hr101
    case hy101 => refine Or.inl ⟨by rfl, ?_⟩; intro w hSw; (try dsimp only at hSw); go_simp; (try with_reducible rfl)
    simp only [Act.put, pT_, pZ_, pS_]
    refine tkU_ 19 (by assumption) ?hr102
    simp only [Act.put, pT_, pZ_, pS_]
    refine tkU_ 20 (by assumption) ?hr103
    simp only [Act.put, pT_, pZ_, pS_]
    refine tkU_ 21 (by assumption) ?hr104
    simp only [Act.put, pT_, pZ_, pS_]
    refine tkU_ 22 (by assumption) ?hr105
    simp only [Act.put, pT_, pZ_, pS_]
    refine tkV_ 23 (v := ?v106) ?hy106 (by assumption) ?hr106
    case hy106 => refine Or.inl ⟨by rfl, ?_⟩; intro w hSw; (try dsimp only at hSw); go_simp; (try with_reducible rfl)
    simp only [Act.put, pT_, pZ_, pS_]
    refine tkV_ 24 (v := ?v107) ?hy107 (by assumption) ?hr107
    case hy107 => refine Or.inl ⟨by rfl, ?_⟩; intro w hSw; (try dsimp only at hSw); go_simp; (try with_reducible rfl)
    simp only [Act.put, pT_, pZ_, pS_]
    refine tkU_ 25 (by assumption) ?hr108
    simp only [Act.put, pT_, pZ_, pS_]
    refine tkU_ 26 (by assumption) ?hr109
    simp only [Act.put, pT_, pZ_, pS_]
    refine tkU_ 27 (by assumption) ?hr110
    simp only [Act.put, pT_, pZ_, pS_]
    refine tkU_ 28 (by assumption) ?hr111
    simp only [Act.put, pT_, pZ_, pS_]
    refine tkU_ 29 (by assumption) ?hr112
    simp only [Act.put, pT_, pZ_, pS_]
    refine tkU_ 30 (by assumption) ?hr113
    simp only [Act.put, pT_, pZ_, pS_]
    refine tkU_ 31 (by assumption) ?hr114
    simp only [Act.put, pT_, pZ_, pS_]
    refine tkU_ 32 (by assumption) ?hr115
    simp only [Act.put, pT_, pZ_, pS_]
    refine tkU_ 33 (by assumption) ?hr116
    simp only [Act.put, pT_, pZ_, pS_]
    refine tkU_ 34 (by assumption) ?hr117
    simp only [Act.put, pT_, pZ_, pS_]
    refine tkU_ 35 (by assumption) ?hr118
    simp only [Act.put, pT_, pZ_, pS_]
    refine tkU_ 36 (by assumption) ?hr119
    simp only [Act.put, pT_, pZ_, pS_]
    refine tkU_ 37 (by assumption) ?hr120
    simp only [Act.put, pT_, pZ_, pS_]
    refine tkU_ 38 (by assumption) ?hr121
    simp only [Act.put, pT_, pZ_, pS_]
    refine tkU_ 39 (by assumption) ?hr122
    simp only [Act.put, pT_, pZ_, pS_]
    refine tkV_ 40 (v := ?v123) ?hy123 (by assumption) ?hr123
    case hy123 => refine Or.inl ⟨by rfl, ?_⟩; intro w hSw; (try dsimp only at hSw); go_simp; (try with_reducible rfl)
    simp only [Act.put, pT_, pZ_, pS_]
    refine wpAnyH_done (by kernel_rfl) ?_ _
    go_wp2
    go_ret
    exact ⟨ret_bool Hf.out.symm, belN (belN b1.drew hb7) hb8⟩
   rcases hd : inI ed 1 100000 with _ | _
   ·have Hf := Lib.hid (Bad.out (by unfold entOkB; rw [hd]; simp))
    go_wp2_with fail
    refine wp_region_held_drew (S := fun w' => w'.cell? ⟨wr.heap.size, 0, none⟩ = some (.int .i64 eh) ∧ w'.cell? ⟨wr.heap.size, 1, none⟩ = some (.int .i64 ei) ∧ w'.cell? ⟨wr.heap.size, 2, none⟩ = some (.string es) ∧ w'.cell? ⟨wr.heap.size, 3, none⟩ = some (.int .i64 ed)) (by kernel_rfl) ⟨y0, y1, y2, y3⟩ (fun hHeld => ?_)
    refine tkV_ 0 (v := ?v124) ?hy124 (by assumption) ?hr124
    case hy124 => refine Or.inl ⟨by rfl, ?_⟩; intro w hSw; (try dsimp only at hSw); go_simp; (try with_reducible rfl)
    simp only [Act.put, pT_, pZ_, pS_]
    refine tkV_ 1 (v := ?v125) ?hy125 (by assumption) ?hr125
    case hy125 => refine Or.inl ⟨by rfl, ?_⟩; intro w hSw; (try dsimp only at hSw); go_simp; (try with_reducible rfl)
    simp only [Act.put, pT_, pZ_, pS_]
    refine wpAnyH_ready (rs := [2]) (by kernel_rfl) (by simp) ?_
    refine AllReadyH.cons (o := ?oi126) ?hi126 (fun K hK => ?_) AllReadyH.nil
    case hi126 => (conv => lhs; simp only [gT_, gZ_, gS_]); try exact rfl
    go_simp
    go_at_call 82
    refine (nameOk_spec es hszk _).mono ?_
    rintro e w7 ⟨rfl, hb7⟩
    refine hK.out _ _ (by obtain ⟨a0, a1, a2, a3⟩ := hHeld; exact ⟨keep1 hb7 a0 (Nat.le_refl _), keep1 hb7 a1 (Nat.le_refl _), keep1 hb7 a2 (Nat.le_refl _), keep1 hb7 a3 (Nat.le_refl _)⟩) (fun hHeld126 => ?_)
    clear hK K
    clear hHeld
    refine tkV_ 3 (v := ?v127) ?hy127 (by assumption) ?hr127
    case hy127 => refine Or.inl ⟨by rfl, ?_⟩; intro w hSw; (try dsimp only at hSw); go_simp; (try with_reducible rfl)
    simp only [Act.put, pT_, pZ_, pS_]
    refine tkV_ 4 (v := ?v128) ?hy128 (by assumption) ?hr128
    case hy128 => refine Or.inl ⟨by rfl, ?_⟩; intro w hSw; (try dsimp only at hSw); go_simp; (try with_reducible rfl)
    simp only [Act.put, pT_, pZ_, pS_]
    refine tkV_ 5 (v := ?v129) ?hy129 (by assumption) ?hr129
    case hy129 => refine Or.inl ⟨by rfl, ?_⟩; intro w hSw; (try dsimp only at hSw); go_simp; (try with_reducible rfl)
    simp only [Act.put, pT_, pZ_, pS_]
    refine tkV_ 6 (v := ?v130) ?hy130 (by assumption) ?hr130
    case hy130 => refine Or.inl ⟨by rfl, ?_⟩; intro w hSw; (try dsimp only at hSw); go_simp; (try with_reducible rfl)
    simp only [Act.put, pT_, pZ_, pS_]
    refine tkV_ 7 (v := ?v131) ?hy131 (by assumption) ?hr131
    case hy131 => refine Or.inl ⟨by rfl, ?_⟩; intro w hSw; (try dsimp only at hSw); go_simp; (try with_reducible rfl)
    simp only [Act.put, pT_, pZ_, pS_]
    refine tkV_ 8 (v := ?v132) ?hy132 (by assumption) ?hr132
    case hy132 => refine Or.inl ⟨by rfl, ?_⟩; intro w hSw; (try dsimp only at hSw); go_simp; (try with_reducible rfl)
    simp only [Act.put, pT_, pZ_, pS_]
    refine wpAnyH_ready (rs := [9]) (by kernel_rfl) (by simp) ?_
    refine AllReadyH.cons (o := ?oi133) ?hi133 (fun K hK => ?_) AllReadyH.nil
    case hi133 => (conv => lhs; simp only [gT_, gZ_, gS_]); try exact rfl
    go_simp
    go_at_call 83
    refine (hashOf_spec es hszk _).mono ?_
    rintro e w8 ⟨rfl, hb8⟩
    refine hK.out _ _ (by obtain ⟨a0, a1, a2, a3⟩ := hHeld126; exact ⟨keep1 hb8 a0 (Nat.le_refl _), keep1 hb8 a1 (Nat.le_refl _), keep1 hb8 a2 (Nat.le_refl _), keep1 hb8 a3 (Nat.le_refl _)⟩) (fun hHeld133 => ?_)
    clear hK K
    clear hHeld126
    refine tkV_ 10 (v := ?v134) ?hy134 (by assumption) ?hr134
    case hy134 => refine Or.inl ⟨by rfl, ?_⟩; intro w hSw; (try dsimp only at hSw); go_simp; (try with_reducible rfl)
    simp only [Act.put, pT_, pZ_, pS_]
    refine tkV_ 11 (v := ?v135) ?hy135 (by assumption) ?hr135
    case hy135 => refine Or.inl ⟨by rfl, ?_⟩; intro w hSw; (try dsimp only at hSw); go_simp; (try with_reducible rfl)
    simp only [Act.put, pT_, pZ_, pS_]
    refine tkV_ 12 (v := ?v136) ?hy136 (by assumption) ?hr136
    case hy136 => refine Or.inl ⟨by rfl, ?_⟩; intro w hSw; (try dsimp only at hSw); go_simp; (try with_reducible rfl)
    simp only [Act.put, pT_, pZ_, pS_]
    refine tkV_ 13 (v := ?v137) ?hy137 (by assumption) ?hr137
    case hy137 => refine Or.inl ⟨by rfl, ?_⟩; intro w hSw; (try dsimp only at hSw); go_simp; (try with_reducible rfl)
    simp only [Act.put, pT_, pZ_, pS_]
    refine tkV_ 14 (v := ?v138) ?hy138 (by assumption) ?hr138
    case hy138 => refine Or.inl ⟨by rfl, ?_⟩; intro w hSw; (try dsimp only at hSw); go_simp; (try with_reducible rfl)
    simp only [Act.put, pT_, pZ_, pS_]
    refine wpAnyH_ready (rs := [15]) (by kernel_rfl) (by simp) ?_
    refine AllReadyH.cons (o := ?oi139) ?hi139 (fun K hK => ?_) AllReadyH.nil
    case hi139 => (conv => lhs; simp only [gT_, gZ_, gS_]); try exact rfl
    go_simp
    go_at_call 43
    refine (l1In_any _ _ _ _).mono ?_
    rintro e w' ⟨rfl, rfl⟩
    refine hK.out _ _ hHeld133 (fun hHeld139 => ?_)
    clear hK K
    refine tkV_ 16 (v := ?v140) ?hy140 (by assumption) ?hr140
    case hy140 => refine Or.inl ⟨by rfl, ?_⟩; intro w hSw; (try dsimp only at hSw); go_simp; (try with_reducible rfl)
    simp only [Act.put, pT_, pZ_, pS_]
    refine tkV_ 17 (v := ?v141) ?hy141 (by assumption) ?hr141
    case hy141 => refine Or.inl ⟨by rfl, ?_⟩; intro w hSw; (try dsimp only at hSw); go_simp; (try with_reducible rfl)
    simp only [Act.put, pT_, pZ_, pS_]
    refine tkV_ 18 (v := ?v142) ?hy142 (by assumption) ?hr142
    case hy142 => refine Or.inl ⟨by rfl, ?_⟩; intro w hSw; (try dsimp only at hSw); go_simp; (try with_reducible rfl)
    simp only [Act.put, pT_, pZ_, pS_]
    refine tkV_ 19 (v := ?v143) ?hy143 (by assumption) ?hr143
    case hy143 => refine Or.inl ⟨by rfl, ?_⟩; intro w hSw; (try dsimp only at hSw); go_simp; (try with_reducible rfl)
    simp only [Act.put, pT_, pZ_, pS_]
    refine tkV_ 20 (v := ?v144) ?hy144 (by assumption) ?hr144
    case hy144 => refine Or.inl ⟨by rfl, ?_⟩; intro w hSw; (try dsimp only at hSw); go_simp; (try with_reducible rfl)
    simp only [Act.put, pT_, pZ_, pS_]
    refine wpAnyH_ready (rs := [21]) (by kernel_rfl) (by simp) ?_
    refine AllReadyH.cons (o := ?oi145) ?hi145 (fun K hK => ?_) AllReadyH.nil
    case hi145 => (conv => lhs; simp only [gT_, gZ_, gS_]); try exact rfl
    go_simp
    go_at_call 43
    refine (l1In_any _ _ _ _).mono ?_
    rintro e w' ⟨rfl, rfl⟩
    refine hK.out _ _ hHeld139 (fun hHeld145 => ?_)
    clear hK K
    refine tkV_ 22 (v := ?v146) ?hy146 (by assumption) ?hr146
    case hy146 => refine Or.inl ⟨by rfl, ?_⟩; intro w hSw; (try dsimp only at hSw); go_simp; (try with_reducible rfl)
    simp only [Act.put, pT_, pZ_, pS_]
    refine tkV_ 23 (v := ?v147) ?hy147 (by assumption) ?hr147
    case hy147 => refine Or.inl ⟨by rfl, ?_⟩; intro w hSw; (try dsimp only at hSw); go_simp; (try with_reducible rfl)
    simp only [Act.put, pT_, pZ_, pS_]
    refine tkV_ 24 (v := ?v148) ?hy148 (by assumption) ?hr148
    case hy148 => refine Or.inl ⟨by rfl, ?_⟩; intro w hSw; (try dsimp only at hSw); go_simp; (try with_reducible rfl)
    simp only [Act.put, pT_, pZ_, pS_]
    refine tkU_ 25 (by assumption) ?hr149
    simp only [Act.put, pT_, pZ_, pS_]
    refine tkU_ 26 (by assumption) ?hr150
    simp only [Act.put, pT_, pZ_, pS_]
    refine tkU_ 27 (by assumption) ?hr151
    simp only [Act.put, pT_, pZ_, pS_]
    refine tkU_ 28 (by assumption) ?hr152
    simp only [Act.put, pT_, pZ_, pS_]
    refine tkU_ 29 (by assumption) ?hr153
    simp only [Act.put, pT_, pZ_, pS_]
    refine tkU_ 30 (by assumption) ?hr154
    simp only [Act.put, pT_, pZ_, pS_]
    refine tkU_ 31 (by assumption) ?hr155
    simp only [Act.put, pT_, pZ_, pS_]
    refine tkU_ 32 (by assumption) ?hr156
    simp only [Act.put, pT_, pZ_, pS_]
    refine tkU_ 33 (by assumption) ?hr157
    simp only [Act.put, pT_, pZ_, pS_]
    refine tkU_ 34 (by assumption) ?hr158
    simp only [Act.put, pT_, pZ_, pS_]
    refine tkU_ 35 (by assumption) ?hr159
    simp only [Act.put, pT_, pZ_, pS_]
    refine tkU_ 36 (by assumption) ?hr160
    simp only [Act.put, pT_, pZ_, pS_]
    refine tkU_ 37 (by assumption) ?hr161
    simp only [Act.put, pT_, pZ_, pS_]
    refine tkU_ 38 (by assumption) ?hr162
    simp only [Act.put, pT_, pZ_, pS_]
    refine tkU_ 39 (by assumption) ?hr163
    simp only [Act.put, pT_, pZ_, pS_]
    refine tkV_ 40 (v := ?v164) ?hy164 (by assumption) ?hr164
    case hy164 => refine Or.inl ⟨by rfl, ?_⟩; intro w hSw; (try dsimp only at hSw); go_simp; (try with_reducible rfl)
    simp only [Act.put, pT_, pZ_, pS_]
    refine wpAnyH_done (by kernel_rfl) ?_ _
    go_wp2
    go_ret
    exact ⟨ret_bool Hf.out.symm, belN (belN b1.drew hb7) hb8⟩
   have Hok := Lib.hid (show entOkB ⟨eh, ei, es, ed⟩ = true by unfold entOkB; rw [hnm, hhe.out, hx, hd]; rfl)
   have Hnm := Lib.hid hnm
   rcases Nat.eq_zero_or_pos k with hk0 | hk0
   ·have hI0 : decide (0 < I) = false := by have := HI.out; simp; omega
    have Hgd := Lib.hid (show GoodAt ds k from ⟨hkx, by rw [He.out]; exact Hok.out, fun h => absurd h (by omega), fun j hj => absurd hj (by omega)⟩)
    have Hk0 := Lib.hid hk0
    clear hk0
    go_wp2_with fail
    refine wp_region_held_drew (S := fun w' => w'.cell? ⟨wr.heap.size, 0, none⟩ = some (.int .i64 eh) ∧ w'.cell? ⟨wr.heap.size, 1, none⟩ = some (.int .i64 ei) ∧ w'.cell? ⟨wr.heap.size, 2, none⟩ = some (.string es) ∧ w'.cell? ⟨wr.heap.size, 3, none⟩ = some (.int .i64 ed)) (by kernel_rfl) ⟨y0, y1, y2, y3⟩ (fun hHeld => ?_)
    refine tkV_ 0 (v := ?v165) ?hy165 (by assumption) ?hr165
    case hy165 => refine Or.inl ⟨by rfl, ?_⟩; intro w hSw; (try dsimp only at hSw); go_simp; (try with_reducible rfl)
    simp only [Act.put, pT_, pZ_, pS_]
    refine tkV_ 1 (v := ?v166) ?hy166 (by assumption) ?hr166
    case hy166 => refine Or.inl ⟨by rfl, ?_⟩; intro w hSw; (try dsimp only at hSw); go_simp; (try with_reducible rfl)
    simp only [Act.put, pT_, pZ_, pS_]
    refine wpAnyH_ready (rs := [2]) (by kernel_rfl) (by simp) ?_
    refine AllReadyH.cons (o := ?oi167) ?hi167 (fun K hK => ?_) AllReadyH.nil
    case hi167 => (conv => lhs; simp only [gT_, gZ_, gS_]); try exact rfl
    go_simp
    go_at_call 82
    refine (nameOk_spec es hszk _).mono ?_
    rintro e w7 ⟨rfl, hb7⟩
    refine hK.out _ _ (by obtain ⟨a0, a1, a2, a3⟩ := hHeld; exact ⟨keep1 hb7 a0 (Nat.le_refl _), keep1 hb7 a1 (Nat.le_refl _), keep1 hb7 a2 (Nat.le_refl _), keep1 hb7 a3 (Nat.le_refl _)⟩) (fun hHeld167 => ?_)
    clear hK K
    clear hHeld
    refine tkV_ 3 (v := ?v168) ?hy168 (by assumption) ?hr168
    case hy168 => refine Or.inl ⟨by rfl, ?_⟩; intro w hSw; (try dsimp only at hSw); go_simp; (try with_reducible rfl)
    simp only [Act.put, pT_, pZ_, pS_]
    refine tkV_ 4 (v := ?v169) ?hy169 (by assumption) ?hr169
    case hy169 => refine Or.inl ⟨by rfl, ?_⟩; intro w hSw; (try dsimp only at hSw); go_simp; (try with_reducible rfl)
    simp only [Act.put, pT_, pZ_, pS_]
    refine tkV_ 5 (v := ?v170) ?hy170 (by assumption) ?hr170
    case hy170 => refine Or.inl ⟨by rfl, ?_⟩; intro w hSw; (try dsimp only at hSw); go_simp; (try with_reducible rfl)
    simp only [Act.put, pT_, pZ_, pS_]
    refine tkV_ 6 (v := ?v171) ?hy171 (by assumption) ?hr171
    case hy171 => refine Or.inl ⟨by rfl, ?_⟩; intro w hSw; (try dsimp only at hSw); go_simp; (try with_reducible rfl)
    simp only [Act.put, pT_, pZ_, pS_]
    refine tkV_ 7 (v := ?v172) ?hy172 (by assumption) ?hr172
    case hy172 => refine Or.inl ⟨by rfl, ?_⟩; intro w hSw; (try dsimp only at hSw); go_simp; (try with_reducible rfl)
    simp only [Act.put, pT_, pZ_, pS_]
    refine tkV_ 8 (v := ?v173) ?hy173 (by assumption) ?hr173
    case hy173 => refine Or.inl ⟨by rfl, ?_⟩; intro w hSw; (try dsimp only at hSw); go_simp; (try with_reducible rfl)
    simp only [Act.put, pT_, pZ_, pS_]
    refine wpAnyH_ready (rs := [9]) (by kernel_rfl) (by simp) ?_
    refine AllReadyH.cons (o := ?oi174) ?hi174 (fun K hK => ?_) AllReadyH.nil
    case hi174 => (conv => lhs; simp only [gT_, gZ_, gS_]); try exact rfl
    go_simp
    go_at_call 83
    refine (hashOf_spec es hszk _).mono ?_
    rintro e w8 ⟨rfl, hb8⟩
    refine hK.out _ _ (by obtain ⟨a0, a1, a2, a3⟩ := hHeld167; exact ⟨keep1 hb8 a0 (Nat.le_refl _), keep1 hb8 a1 (Nat.le_refl _), keep1 hb8 a2 (Nat.le_refl _), keep1 hb8 a3 (Nat.le_refl _)⟩) (fun hHeld174 => ?_)
    clear hK K
    clear hHeld167
    refine tkV_ 10 (v := ?v175) ?hy175 (by assumption) ?hr175
    case hy175 => refine Or.inl ⟨by rfl, ?_⟩; intro w hSw; (try dsimp only at hSw); go_simp; (try with_reducible rfl)
    simp only [Act.put, pT_, pZ_, pS_]
    refine tkV_ 11 (v := ?v176) ?hy176 (by assumption) ?hr176
    case hy176 => refine Or.inl ⟨by rfl, ?_⟩; intro w hSw; (try dsimp only at hSw); go_simp; (try with_reducible rfl)
    simp only [Act.put, pT_, pZ_, pS_]
    refine tkV_ 12 (v := ?v177) ?hy177 (by assumption) ?hr177
    case hy177 => refine Or.inl ⟨by rfl, ?_⟩; intro w hSw; (try dsimp only at hSw); go_simp; (try with_reducible rfl)
    simp only [Act.put, pT_, pZ_, pS_]
    refine tkV_ 13 (v := ?v178) ?hy178 (by assumption) ?hr178
    case hy178 => refine Or.inl ⟨by rfl, ?_⟩; intro w hSw; (try dsimp only at hSw); go_simp; (try with_reducible rfl)
    simp only [Act.put, pT_, pZ_, pS_]
    refine tkV_ 14 (v := ?v179) ?hy179 (by assumption) ?hr179
    case hy179 => refine Or.inl ⟨by rfl, ?_⟩; intro w hSw; (try dsimp only at hSw); go_simp; (try with_reducible rfl)
    simp only [Act.put, pT_, pZ_, pS_]
    refine wpAnyH_ready (rs := [15]) (by kernel_rfl) (by simp) ?_
    refine AllReadyH.cons (o := ?oi180) ?hi180 (fun K hK => ?_) AllReadyH.nil
    case hi180 => (conv => lhs; simp only [gT_, gZ_, gS_]); try exact rfl
    go_simp
    go_at_call 43
    refine (l1In_any _ _ _ _).mono ?_
    rintro e w' ⟨rfl, rfl⟩
    refine hK.out _ _ hHeld174 (fun hHeld180 => ?_)
    clear hK K
    refine tkV_ 16 (v := ?v181) ?hy181 (by assumption) ?hr181
    case hy181 => refine Or.inl ⟨by rfl, ?_⟩; intro w hSw; (try dsimp only at hSw); go_simp; (try with_reducible rfl)
    simp only [Act.put, pT_, pZ_, pS_]
    refine tkV_ 17 (v := ?v182) ?hy182 (by assumption) ?hr182
    case hy182 => refine Or.inl ⟨by rfl, ?_⟩; intro w hSw; (try dsimp only at hSw); go_simp; (try with_reducible rfl)
    simp only [Act.put, pT_, pZ_, pS_]
    refine tkV_ 18 (v := ?v183) ?hy183 (by assumption) ?hr183
    case hy183 => refine Or.inl ⟨by rfl, ?_⟩; intro w hSw; (try dsimp only at hSw); go_simp; (try with_reducible rfl)
    simp only [Act.put, pT_, pZ_, pS_]
    refine tkV_ 19 (v := ?v184) ?hy184 (by assumption) ?hr184
    case hy184 => refine Or.inl ⟨by rfl, ?_⟩; intro w hSw; (try dsimp only at hSw); go_simp; (try with_reducible rfl)
    simp only [Act.put, pT_, pZ_, pS_]
    refine tkV_ 20 (v := ?v185) ?hy185 (by assumption) ?hr185
    case hy185 => refine Or.inl ⟨by rfl, ?_⟩; intro w hSw; (try dsimp only at hSw); go_simp; (try with_reducible rfl)
    simp only [Act.put, pT_, pZ_, pS_]
    refine wpAnyH_ready (rs := [21]) (by kernel_rfl) (by simp) ?_
    refine AllReadyH.cons (o := ?oi186) ?hi186 (fun K hK => ?_) AllReadyH.nil
    case hi186 => (conv => lhs; simp only [gT_, gZ_, gS_]); try exact rfl
    go_simp
    go_at_call 43
    refine (l1In_any _ _ _ _).mono ?_
    rintro e w' ⟨rfl, rfl⟩
    refine hK.out _ _ hHeld180 (fun hHeld186 => ?_)
    clear hK K
    refine tkV_ 22 (v := ?v187) ?hy187 (by assumption) ?hr187
    case hy187 => refine Or.inl ⟨by rfl, ?_⟩; intro w hSw; (try dsimp only at hSw); go_simp; (try with_reducible rfl)
    simp only [Act.put, pT_, pZ_, pS_]
    refine tkV_ 23 (v := ?v188) ?hy188 (by assumption) ?hr188
    case hy188 => refine Or.inl ⟨by rfl, ?_⟩; intro w hSw; (try dsimp only at hSw); go_simp; (try with_reducible rfl)
    simp only [Act.put, pT_, pZ_, pS_]
    refine tkV_ 24 (v := ?v189) ?hy189 (by assumption) ?hr189
    case hy189 => refine Or.inl ⟨by rfl, ?_⟩; intro w hSw; (try dsimp only at hSw); go_simp; (try with_reducible rfl)
    simp only [Act.put, pT_, pZ_, pS_]
    refine tkV_ 25 (v := ?v190) ?hy190 (by assumption) ?hr190
    case hy190 => refine Or.inl ⟨by rfl, ?_⟩; intro w hSw; (try dsimp only at hSw); go_simp; (try with_reducible rfl)
    simp only [Act.put, pT_, pZ_, pS_]
    refine tkV_ 26 (v := ?v191) ?hy191 (by assumption) ?hr191
    case hy191 => refine Or.inl ⟨by rfl, ?_⟩; intro w hSw; (try dsimp only at hSw); go_simp; (try with_reducible rfl)
    simp only [Act.put, pT_, pZ_, pS_]
    refine tkV_ 27 (v := ?v192) ?hy192 (by assumption) ?hr192
    case hy192 => refine Or.inl ⟨by rfl, ?_⟩; intro w hSw; (try dsimp only at hSw); go_simp; (try with_reducible rfl)
    simp only [Act.put, pT_, pZ_, pS_]
    refine tkU_ 28 (by assumption) ?hr193
    simp only [Act.put, pT_, pZ_, pS_]
    refine tkU_ 29 (by assumption) ?hr194
    simp only [Act.put, pT_, pZ_, pS_]
    refine tkU_ 30 (by assumption) ?hr195
    simp only [Act.put, pT_, pZ_, pS_]
    refine tkU_ 31 (by assumption) ?hr196
    simp only [Act.put, pT_, pZ_, pS_]
    refine tkU_ 32 (by assumption) ?hr197
    simp only [Act.put, pT_, pZ_, pS_]
    refine tkU_ 33 (by assumption) ?hr198
    simp only [Act.put, pT_, pZ_, pS_]
    refine tkU_ 34 (by assumption) ?hr199
    simp only [Act.put, pT_, pZ_, pS_]
    refine tkU_ 35 (by assumption) ?hr200
    simp only [Act.put, pT_, pZ_, pS_]
    refine tkU_ 36 (by assumption) ?hr201
    simp only [Act.put, pT_, pZ_, pS_]
    refine tkU_ 37 (by assumption) ?hr202
    simp only [Act.put, pT_, pZ_, pS_]
    refine tkU_ 38 (by assumption) ?hr203
    simp only [Act.put, pT_, pZ_, pS_]
    refine tkV_ 39 (v := ?v204) ?hy204 (by assumption) ?hr204
    case hy204 => refine Or.inl ⟨by rfl, ?_⟩; intro w hSw; (try dsimp only at hSw); go_simp; (try with_reducible rfl)
    simp only [Act.put, pT_, pZ_, pS_]
    refine tkV_ 40 (v := ?v205) ?hy205 (by assumption) ?hr205
    case hy205 => refine Or.inl ⟨by rfl, ?_⟩; intro w hSw; (try dsimp only at hSw); go_simp; (try with_reducible rfl)
    simp only [Act.put, pT_, pZ_, pS_]
    refine wpAnyH_done (by kernel_rfl) ?_ _
    have b8 := belN (belN b1.drew hb7) hb8
    have hI9 : ¬ (0 : Int) < I := by have := HI.out; have := Hk0.out; omega
    clear y0 y1 y2 y3 hnm hh hx hd
    go_wp2
    refine wp_loop_rounds 1 ?_
    rw [rounds_succ]
    go_wp2
    go_roundw
    case rel =>
     refine ⟨k + 1, I + 1, by omega, by go_num, by have := HI.out; show _ = _; omega, fun j hj => ?_, b8⟩
     rcases Nat.lt_or_ge j k with h | h
     ·exact hgood.out j h
     ·rw [show j = k by omega]; exact Hgd.out
    case measure => simp [intOf]; omega
   ·obtain ⟨p, hp⟩ : ∃ p, k = p + 1 := ⟨k - 1, by omega⟩
    have Hp := Lib.hid hp
    obtain ⟨hpx, b', o', he', _, x0, x1, x2, x3⟩ := reads_ent (Hr.out.below b1) (k := p) (by omega)
    injection he' with he'
    injection he' with e1 e2
    subst e1
    subst e2
    have w1' : IntKind.i64.wrap (I - 1) = (p : Int) := by rw [IntWalk.i64_in _ (by omega)]; have := HI.out; omega
    have w2' : I - 1 = (p : Int) := by have := HI.out; omega
    have w3' : IntKind.i64.wrap (p : Int) = (p : Int) := IntWalk.i64_in _ (by omega)
    have p0 : (0 : Int) ≤ ↑p := by omega
    have p1 : (p : Int) < ↑n := by omega
    have hI2 : 0 < I := by have := HI.out; omega
    clear hp
    have hlb := less_beh ds[p] ⟨eh, ei, es, ed⟩
    simp only at hlb
    rcases hbh : behB ⟨eh, ei, es, ed⟩ ds[p].h ds[p].i with _ | _
    ·have Hf := Lib.hid (not_good hkx fun hg => by
      obtain ⟨_, _, h3, _⟩ := hg
      have h4 := h3 hk0
      have hpp : k - 1 = p := by have := Hp.out; omega
      simp only [hpp, He.out] at h4
      rw [hbh] at h4; cases h4)
     have hlb2 := hlb.trans hbh
     clear hlb hbh
     go_wp2_with fail
     go_region_held3 (fun w' => w'.cell? ⟨wr.heap.size, 0, none⟩ = some (.int .i64 eh) ∧ w'.cell? ⟨wr.heap.size, 1, none⟩ = some (.int .i64 ei) ∧ w'.cell? ⟨wr.heap.size, 2, none⟩ = some (.string es) ∧ w'.cell? ⟨wr.heap.size, 3, none⟩ = some (.int .i64 ed) ∧ w'.cell? ⟨b, o + p * 4, none⟩ = some (.int .i64 ds[p].h) ∧ w'.cell? ⟨b, o + p * 4 + 1, none⟩ = some (.int .i64 ds[p].i) ∧ w'.cell? ⟨b, o + p * 4 + 2, none⟩ = some (.string ds[p].s) ∧ w'.cell? ⟨b, o + p * 4 + 3, none⟩ = some (.int .i64 ds[p].d))
      (first | go_keep | (refine ⟨keep1 hb9 ?_, keep1 hb9 ?_, keep1 hb9 ?_, keep1 hb9 ?_, keep1 hb9 ?_, keep1 hb9 ?_, keep1 hb9 ?_, keep1 hb9 ?_⟩ <;> go_keep) | (refine ⟨keep1 hb8 ?_, keep1 hb8 ?_, keep1 hb8 ?_, keep1 hb8 ?_, keep1 hb8 ?_, keep1 hb8 ?_, keep1 hb8 ?_, keep1 hb8 ?_⟩ <;> go_keep) | (refine ⟨keep1 hb7 ?_, keep1 hb7 ?_, keep1 hb7 ?_, keep1 hb7 ?_, keep1 hb7 ?_, keep1 hb7 ?_, keep1 hb7 ?_, keep1 hb7 ?_⟩ <;> go_keep))
      (first
       | (go_at_call 82; refine (nameOk_spec es hszk _).mono ?_; rintro e w7 ⟨rfl, hb7⟩)
       | (go_at_call 83; refine (hashOf_spec es hszk _).mono ?_; rintro e w8 ⟨rfl, hb8⟩)
       | (go_at_call 43; refine (l1In_any _ _ _ _).mono ?_; rintro e w' ⟨rfl, rfl⟩)
       | (go_at_call 84; refine (l5Less_any ds[p] _ _ _).mono ?_; rintro e w9 ⟨rfl, hb9⟩))
     go_wp2
     go_ret
     exact ⟨ret_bool Hf.out.symm, belN (belN (belN b1.drew hb7) hb8) hb9⟩
    ·have Hbh := Lib.hid (show ∀ h1 : 0 < k, behB ds[k] (ds[k - 1]'(by omega)).h (ds[k - 1]'(by omega)).i = true by
      intro h1
      have hpp : k - 1 = p := by have := Hp.out; omega
      simp only [hpp, He.out]; exact hbh)
     have hlb2 := hlb.trans hbh
     clear hlb hbh
     go_wp2_with fail
     go_region_held3 (fun w' => w'.cell? ⟨wr.heap.size, 0, none⟩ = some (.int .i64 eh) ∧ w'.cell? ⟨wr.heap.size, 1, none⟩ = some (.int .i64 ei) ∧ w'.cell? ⟨wr.heap.size, 2, none⟩ = some (.string es) ∧ w'.cell? ⟨wr.heap.size, 3, none⟩ = some (.int .i64 ed) ∧ w'.cell? ⟨b, o + p * 4, none⟩ = some (.int .i64 ds[p].h) ∧ w'.cell? ⟨b, o + p * 4 + 1, none⟩ = some (.int .i64 ds[p].i) ∧ w'.cell? ⟨b, o + p * 4 + 2, none⟩ = some (.string ds[p].s) ∧ w'.cell? ⟨b, o + p * 4 + 3, none⟩ = some (.int .i64 ds[p].d))
      (first | go_keep | (refine ⟨keep1 hb9 ?_, keep1 hb9 ?_, keep1 hb9 ?_, keep1 hb9 ?_, keep1 hb9 ?_, keep1 hb9 ?_, keep1 hb9 ?_, keep1 hb9 ?_⟩ <;> go_keep) | (refine ⟨keep1 hb8 ?_, keep1 hb8 ?_, keep1 hb8 ?_, keep1 hb8 ?_, keep1 hb8 ?_, keep1 hb8 ?_, keep1 hb8 ?_, keep1 hb8 ?_⟩ <;> go_keep) | (refine ⟨keep1 hb7 ?_, keep1 hb7 ?_, keep1 hb7 ?_, keep1 hb7 ?_, keep1 hb7 ?_, keep1 hb7 ?_, keep1 hb7 ?_, keep1 hb7 ?_⟩ <;> go_keep))
      (first
       | (go_at_call 82; refine (nameOk_spec es hszk _).mono ?_; rintro e w7 ⟨rfl, hb7⟩)
       | (go_at_call 83; refine (hashOf_spec es hszk _).mono ?_; rintro e w8 ⟨rfl, hb8⟩)
       | (go_at_call 43; refine (l1In_any _ _ _ _).mono ?_; rintro e w' ⟨rfl, rfl⟩)
       | (go_at_call 84; refine (l5Less_any ds[p] _ _ _).mono ?_; rintro e w9 ⟨rfl, hb9⟩))
     have b9 := belN (belN (belN b1.drew hb7) hb8) hb9
     have hB9 := ((hB.drew.below hb7 hB.drew.lt).below hb8 (hB.drew.below hb7 hB.drew.lt).lt).below hb9 ((hB.drew.below hb7 hB.drew.lt).below hb8 (hB.drew.below hb7 hB.drew.lt).lt).lt
     clear x0 x1 x2 x3 y0 y1 y2 y3 hnm hh hx hd hB
     have hwz : ∃ wz, wz = wr := ⟨_, rfl⟩
     obtain ⟨wz, hwz⟩ := hwz
     subst hwz
     go_wp2
     go_loopw [5] (fun i wr => ∃ (j : Nat), j ≤ k ∧ i = .int .i64 j ∧ Hid (∀ m (hm : m < j) (hmk : m < ds.length), keyB ds[m].s ≠ keyB es) ∧ Below w9.heap.size w9 wr)
      (fun i _ => k - (intOf i).toNat)
     case atStart => exact ⟨0, by omega, rfl, fun m hm => absurd hm (by omega), bel0 w9⟩
     case round =>
      obtain ⟨j, hj, rfl, hdist, hbel9⟩ := hrel
      have b10 := belN b9 hbel9
      have hBr := hB9.below hbel9 hB9.lt
      have hIk := HI.out
      have v2 := hBr.get (x := .string es) 2 rfl
      have hnb : b ≠ wz.heap.size := by omega
      by_cases hjk : j < k
      ·have hjI : (j : Int) < I := by omega
       have hjn : (j : Int) < (n : Int) := by omega
       have hj0 : (0 : Int) ≤ (j : Int) := by omega
       clear hIk
       obtain ⟨hjx, b2, o2, he2, _, _, _, u2, _⟩ := reads_ent (Hr.out.below b10) (k := j) (by omega)
       injection he2 with he2
       injection he2 with e3 e4
       subst e3
       subst e4
       have hsj := Hz.out _ (List.getElem_mem hjx)
       have Hgj := Lib.hid (show nameOkB ds[j].s = true by obtain ⟨_, h, _⟩ := hgood.out j hjk; exact (entOk_parts h).1)
       obtain ⟨sj, hsjx⟩ : ∃ sj, ds[j].s = sj := ⟨_, rfl⟩
       have Hsj := Lib.hid hsjx
       rw [hsjx] at u2 hsj Hgj
       clear hsjx
       rcases hal : alikeB sj es with _ | _
       ·have Hal := Lib.hid (show keyB sj ≠ keyB es from fun h => by rw [(alikeB_eq Hgj.out Hnm.out).2 h] at hal; cases hal)
        go_wp2_with fail
        go_region_held3 (fun w' => w'.cell? ⟨b, o + j * 4 + 2, none⟩ = some (.string sj) ∧ w'.cell? ⟨wz.heap.size, 2, none⟩ = some (.string es)) (first | go_keep | (refine ⟨keep1 hb10 ?_, keep1 hb10 ?_⟩ <;> go_keep))
         (first
          | (go_at_call 85; refine (alike_spec sj es hsj hszk _).mono ?_; rintro e w10 ⟨rfl, hb10⟩))
        go_wp2
        go_roundw
        case rel =>
         refine ⟨j + 1, by omega, by go_num, fun m hm hmk => ?_, belN hbel9.drew hb10⟩
         rcases Nat.lt_or_ge m j with h | h
         ·exact hdist.out m h hmk
         ·have hmj : m = j := by omega
          subst hmj
          rw [Hsj.out]; exact Hal.out
        case measure => simp [intOf]; omega
       ·have Hf := Lib.hid (not_good hkx fun hg => by
         obtain ⟨_, _, _, h4⟩ := hg
         have h5 := h4 j hjk
         rw [He.out, Hsj.out] at h5
         exact h5 ((alikeB_eq Hgj.out Hnm.out).1 hal))
        go_wp2_with fail
        go_region_held3 (fun w' => w'.cell? ⟨b, o + j * 4 + 2, none⟩ = some (.string sj) ∧ w'.cell? ⟨wz.heap.size, 2, none⟩ = some (.string es)) (first | go_keep | (refine ⟨keep1 hb10 ?_, keep1 hb10 ?_⟩ <;> go_keep))
         (first
          | (go_at_call 85; refine (alike_spec sj es hsj hszk _).mono ?_; rintro e w10 ⟨rfl, hb10⟩))
        go_wp2
        go_ret
        exact ⟨ret_bool Hf.out.symm, belN b10.drew hb10⟩
      ·have hjI : ¬ (j : Int) < I := by omega
       have Hgd := Lib.hid (show GoodAt ds k from ⟨hkx, by rw [He.out]; exact Hok.out, Hbh.out, fun m hm => by rw [He.out]; exact hdist.out m (by omega) (by omega)⟩)
       clear hIk
       go_wp2
       go_roundw
       case rel =>
        refine ⟨k + 1, I + 1, by omega, by go_num, by have := HI.out; show _ = _; omega, fun m hm => ?_, b10⟩
        rcases Nat.lt_or_ge m k with h | h
        ·exact hgood.out m h
        ·rw [show m = k by omega]; exact Hgd.out
       case measure => simp [intOf]; omega
  ·obtain rfl : k = n := by omega
   have Hf := Lib.hid (dirOkB_true (dirP_iff.2 ⟨by have := HL.out; omega, fun i hi => hgood.out i (by have := HL.out; omega)⟩))
   clear hI
   have hi1 : ¬ I < (k : Int) := by have := HI.out; omega
   go_wp2
   go_ret
   exact ⟨ret_bool Hf.out.symm, hbel⟩

end Go.Proofs.YtghgafbfpejinaaGreatDoor
