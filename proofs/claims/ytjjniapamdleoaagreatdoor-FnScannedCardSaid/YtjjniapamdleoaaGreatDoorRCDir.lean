/- Right directories: plain table, the program, the reference. -/
import Derived.Test.YtjjniapamdleoaaGreatDoorRCApart
import Derived.Test.YtjjniapamdleoaaGreatDoorRCStrs
import Derived.Test.YtjjniapamdleoaaGreatDoorRCFrame
import Derived.Deep.Slices
namespace Go.Proofs.YtjjniapamdleoaaGreatDoor
open Go Go.RowKit
set_option maxHeartbeats 8000000
set_option maxRecDepth 100000

/-- A text stands among others. -/
def memB (xs : List ByteArray) (q : ByteArray) : Bool := xs.any fun y => q.toList == y.toList
theorem memB_iff {xs : List ByteArray} {q : ByteArray} : memB xs q = true ↔ q ∈ xs := by
 unfold memB
 rw [List.any_eq_true]
 constructor
 ·rintro ⟨y, hy, h⟩
  rw [beq_iff_eq, ByteArray.toList_eq, ByteArray.toList_eq] at h
  rw [bytes_ext h]; exact hy
 ·intro h; exact ⟨q, h, by simp⟩
theorem memB_no {xs : List ByteArray} {q : ByteArray} (h : memB xs q = false) : q ∉ xs := fun hm => by rw [memB_iff.2 hm] at h; cases h
theorem memB_snoc (xs : List ByteArray) (y q : ByteArray) : memB (xs ++ [y]) q = (memB xs q || (q.toList == y.toList)) := by unfold memB; rw [List.any_append]; simp

theorem indexS_any (A : Option Addr) (n c : Nat) (xs : List ByteArray) (q : ByteArray) (hn : n <= 10000000) (w : World) (hr : Reads w w.heap.size 1 A n (SS xs)) :
  Calls Tryz.prog 228 #[.slice A n c, .string q] w fun e w' => ∃ r : Int, e = .returned (.int .i64 r) /\ decide (0 <= r) = memB xs q /\ w = w' := by
 have hl : xs.length = n := by have := hr.1; rw [SS_length] at this; omega
 have Hr := Lib.hid hr
 clear hr
 go_enter Tryz.func228, Tryz.ntmps228
 go_wp2
 go_loop [8] (fun i => ∃ (j : Nat), j <= n /\ i = .int .i64 j /\ Hid (memB (xs.take j) q = false))
  (fun i => n - (intOf i).toNat)
 case atStart => exact ⟨0, by omega, rfl, rfl⟩
 case round =>
  obtain ⟨j, hj, rfl, hno⟩ := hrel
  by_cases hlt : j < n
  ·obtain ⟨hkx, ad, rfl, hadb, z0⟩ := reads_str Hr.out hlt
   have q0 : (0 : Int) <= ↑j := by omega
   have q1 : (↑j : Int) < ↑n := by omega
   have Hs := Lib.hid (List.take_succ_eq_append_getElem hkx)
   have Hm := Lib.hid (List.getElem_mem hkx)
   obtain ⟨x, hx⟩ : ∃ x, xs[j] = x := ⟨_, rfl⟩
   rw [hx] at z0 Hs Hm
   clear hx
   rcases he : (q.toList == x.toList) with _ | _
   ·have Hn := Lib.hid (show memB (xs.take (j + 1)) q = false by rw [Hs.out, memB_snoc, hno.out, he]; rfl)
    go_wp2
    go_round
    case rel => exact ⟨j + 1, by omega, by go_num, Hn.out⟩
    case measure => simp [intOf]; omega
   ·have Hn := Lib.hid (show memB xs q = true from List.any_eq_true.2 ⟨x, Hm.out, he⟩)
    go_wp2
    go_ret
    exact ⟨_, rfl, by rw [Hn.out]; simp, rfl⟩
  ·have Hn := Lib.hid (show memB xs q = false by have := hno.out; rwa [List.take_of_length_le (by omega)] at this)
   go_wp2
   go_ret
   exact ⟨_, rfl, by rw [Hn.out]; rfl, rfl⟩

theorem containsS_any (A : Option Addr) (n c : Nat) (xs : List ByteArray) (q : ByteArray) (hn : n <= 10000000) (w : World) (hr : Reads w w.heap.size 1 A n (SS xs)) :
  Calls Tryz.prog 176 #[.slice A n c, .string q] w fun e w' => e = .returned (.bool (memB xs q)) /\ w = w' := by
 have Hr := Lib.hid hr
 clear hr
 go_enter Tryz.func176, Tryz.ntmps176
 go_wp2_with fail
 refine (indexS_any A n c xs q hn _ Hr.out).mono ?_
 rintro e w' ⟨r, rfl, hr, rfl⟩
 have Hd := Lib.hid hr
 clear hr
 go_wp2
 go_ret
 exact ⟨ret_bool Hd.out, rfl⟩

theorem isId_any (x : Int) (w : World) : Calls Tryz.prog 177 #[.int .i64 x] w fun e w' => e = .returned (.bool (inI x 1 100000)) /\ w = w' := by
 go_enter Tryz.func177, Tryz.ntmps177
 go_wp2_with (go_at_call 67; refine (within_any _ _ _ _).mono ?_; rintro e w' ⟨rfl, rfl⟩)
 go_ret
 exact ⟨rfl, rfl⟩

theorem alikeB_eq {a b : ByteArray} (ha : nameOkB a = true) (hb : nameOkB b = true) : alikeB a b = true ↔ keyB a = keyB b := by
 unfold alikeB
 rw [ha, hb]
 simp

theorem alike_spec (a b : ByteArray) (ha : a.size <= 2000000) (hb : b.size <= 2000000) (w : World) :
  Calls Tryz.prog 41 #[.string a, .string b] w fun e w' => e = .returned (.bool (alikeB a b)) /\ Below w.heap.size w w' := by
 have Ka := Lib.hid (keyP_2 a)
 have Kb := Lib.hid (keyP_2 b)
 obtain ⟨x, p, hx⟩ : ∃ x p, keyP a = (x, p) := ⟨_, _, rfl⟩
 obtain ⟨y, q, hy⟩ : ∃ y q, keyP b = (y, q) := ⟨_, _, rfl⟩
 have Hx := Lib.hid hx
 have Hy := Lib.hid hy
 have hf : ∀ z : Bool, (x.toList == y.toList) = z -> alikeB a b = (p && (q && z)) := by
  intro z hz
  have hp : nameOkB a = p := by rw [<- keyP_2, hx]
  have hq : nameOkB b = q := by rw [<- keyP_2, hy]
  unfold alikeB
  rw [hp, hq]
  cases p
  ·rfl
  ·cases q
   ·rfl
   ·rw [keyP_ok hp] at hx
    rw [keyP_ok hq] at hy
    injection hx with hx _
    injection hy with hy _
    rw [hx, hy]
    cases z
    ·rw [beq_eq_false_iff_ne, ne_eq, ByteArray.toList_eq, ByteArray.toList_eq] at hz
     simp only [Bool.true_and, decide_eq_false_iff_not]
     exact fun e => hz (by rw [e])
    ·rw [beq_iff_eq, ByteArray.toList_eq, ByteArray.toList_eq] at hz
     simp [bytes_ext hz]
 clear hx hy
 rcases hz : (x.toList == y.toList) with _ | _
 all_goals
  have Hf := Lib.hid (hf _ hz)
  cases p <;> cases q
  all_goals
   clear hf
   go_enter Tryz.func41, Tryz.ntmps41
   go_wp2_with fail
   refine (keyOf_spec a ha _).mono ?_
   rintro e w1 ⟨rfl, hb1⟩
   rw [Hx.out]
   simp only
   go_wp2_with fail
   refine (keyOf_spec b hb _).mono ?_
   rintro e w2 ⟨rfl, hb2⟩
   rw [Hy.out]
   simp only
   go_wp2
   go_ret
   exact ⟨ret_bool (by rw [Hf.out]; rfl), belN hb1 hb2⟩

/-- An entry is right by itself. -/
noncomputable def entOkB (e : EntD) : Bool := nameOkB e.s && ((hashI e.s == e.h) && (inI e.i 0 12 && inI e.d 1 100000))
/-- A directory is right. -/
def DirP (ds : List EntD) : Prop := ds.length <= 12 /\ ∀ i (h : i < ds.length), entOkB ds[i] = true /\ (∀ (h1 : 0 < i), behB ds[i] (ds[i - 1]'(by omega)).h (ds[i - 1]'(by omega)).i = true) /\ ∀ k (hk : k < i), keyB (ds[k]'(by omega)).s ≠ keyB ds[i].s
noncomputable def dirOkB (ds : List EntD) : Bool := @decide (DirP ds) (Classical.propDecidable _)
theorem dirOkB_iff {ds : List EntD} : dirOkB ds = true ↔ DirP ds := @decide_eq_true_iff _ (Classical.propDecidable _)
theorem dirOkB_true {ds : List EntD} (h : DirP ds) : dirOkB ds = true := dirOkB_iff.2 h
theorem dirOkB_false {ds : List EntD} (h : ¬ DirP ds) : dirOkB ds = false := by
 cases hb : dirOkB ds
 ·rfl
 ·exact absurd (dirOkB_iff.1 hb) h

/-- An entry stands right in its directory. -/
def GoodAt (ds : List EntD) (i : Nat) : Prop := ∃ h : i < ds.length, entOkB ds[i] = true /\ (∀ (h1 : 0 < i), behB ds[i] (ds[i - 1]'(by omega)).h (ds[i - 1]'(by omega)).i = true) /\ ∀ k (hk : k < i), keyB (ds[k]'(by omega)).s ≠ keyB ds[i].s
theorem dirP_iff {ds : List EntD} : DirP ds ↔ ds.length <= 12 /\ ∀ i, i < ds.length -> GoodAt ds i :=
 ⟨fun h => ⟨h.1, fun i hi => ⟨hi, h.2 i hi⟩⟩, fun h => ⟨h.1, fun i hi => by obtain ⟨_, h2⟩ := h.2 i hi; exact h2⟩⟩
theorem not_good {ds : List EntD} {i : Nat} (hi : i < ds.length) (h : ¬ GoodAt ds i) : dirOkB ds = false := dirOkB_false fun hp => h ((dirP_iff.1 hp).2 i hi)
theorem entOk_parts {e : EntD} (h : entOkB e = true) : nameOkB e.s = true /\ (hashI e.s == e.h) = true /\ inI e.i 0 12 = true /\ inI e.d 1 100000 = true := by
 unfold entOkB at h
 simpa [Bool.and_eq_true] using h
theorem crc_q (s : ByteArray) (hs : s.size <= 1000000000) (w : World) : Calls Tryz.prog 175 #[.string s] w fun e w' => e = .returned (.int .i64 (crcB s)) /\ w' = w :=
 (crc_impl s hs w).mono fun _ _ ⟨he, hw⟩ => ⟨he, hw.symm⟩
theorem containsS_q (A : Option Addr) (n c : Nat) (xs : List ByteArray) (q : ByteArray) (hn : n <= 10000000) (w : World) (hr : Reads w w.heap.size 1 A n (SS xs)) :
  Calls Tryz.prog 176 #[.slice A n c, .string q] w fun e w' => e = .returned (.bool (memB xs q)) /\ w' = w :=
 (containsS_any A n c xs q hn w hr).mono fun _ _ ⟨he, hw⟩ => ⟨he, hw.symm⟩
theorem within_q (a b c : Int) (w : World) : Calls Tryz.prog 67 #[.int .i64 a, .int .i64 b, .int .i64 c] w fun e w' => e = .returned (.bool (inI a b c)) /\ w' = w :=
 (within_any a b c w).mono fun _ _ ⟨he, hw⟩ => ⟨he, hw.symm⟩
theorem isId_q (x : Int) (w : World) : Calls Tryz.prog 177 #[.int .i64 x] w fun e w' => e = .returned (.bool (inI x 1 100000)) /\ w' = w :=
 (isId_any x w).mono fun _ _ ⟨he, hw⟩ => ⟨he, hw.symm⟩
/-- The keys of the first so many. -/
noncomputable def keysL (ds : List EntD) (k : Nat) : List ByteArray := (ds.take k).map fun e => keyB e.s
theorem keysL_len (ds : List EntD) (k : Nat) (h : k <= ds.length) : (keysL ds k).length = k := by unfold keysL; rw [List.length_map, List.length_take]; omega
theorem keysL_succ (ds : List EntD) (k : Nat) (h : k < ds.length) : keysL ds (k + 1) = keysL ds k ++ [keyB ds[k].s] := by
 unfold keysL; rw [List.take_succ_eq_append_getElem h, List.map_append]; rfl
theorem keys_mem {ds : List EntD} {k : Nat} (h : k < ds.length) {q : ByteArray} : q ∈ keysL ds k ↔ ∃ j, ∃ hj : j < k, keyB (ds[j]'(by omega)).s = q := by
 unfold keysL
 rw [List.mem_map]
 constructor
 ·rintro ⟨e, he, rfl⟩
  obtain ⟨j, hj, rfl⟩ := List.getElem_of_mem he
  rw [List.length_take] at hj
  exact ⟨j, by omega, by rw [List.getElem_take]⟩
 ·rintro ⟨j, hj, rfl⟩
  exact ⟨ds[j]'(by omega), List.mem_iff_getElem.2 ⟨j, by rw [List.length_take]; omega, by rw [List.getElem_take]⟩, rfl⟩
theorem own_dN {w : World} {base : Nat} {e : TypeId} {size n : Nat} {v : Value} {xs : List Value} (h : w.ownsRow base e size v n xs) (k : Nat) : (w.drewN k).ownsRow base e size v n xs := h
theorem own_d {w : World} {base : Nat} {e : TypeId} {size n : Nat} {v : Value} {xs : List Value} (h : w.ownsRow base e size v n xs) : w.drew.ownsRow base e size v n xs := h

theorem dirOk_impl (A : Option Addr) (n c : Nat) (ds : List EntD) (hz : ∀ e ∈ ds, e.s.size <= 2000000) (w : World) (hT : Tab w) (hn : n <= 9223372036854775807) (hr : Reads w w.heap.size 4 A n (ES ds)) :
  Calls Tryz.prog 124 #[.slice A n c] w fun e w' => e = .returned (.bool (dirOkB ds)) /\ Below w.heap.size w w' := by
 have hl : ds.length = n := by have := hr.1; rw [ES_length] at this; omega
 have Hr := Lib.hid hr
 have HT := Lib.hid hT
 have Hz := Lib.hid hz
 have HL := Lib.hid hl
 clear hr hT hz hl
 by_cases h12 : 12 < n
 ·have Hf := Lib.hid (dirOkB_false (ds := ds) fun hp => by have := hp.1; have := HL.out; omega)
  go_enter Tryz.func124, Tryz.ntmps124
  go_wp2
  go_ret
  exact ⟨ret_bool Hf.out.symm, bel0 w⟩
 go_enter Tryz.func124, Tryz.ntmps124
 go_wp2
 go_loopw [3, 14] (fun v i wr => ∃ (k : Nat) (I : Int), k <= n /\ i = .int .i64 I /\ Hid (I = k) /\ wr.ownsRow w.heap.size 9 1 v k (SS (keysL ds k)) /\ Hid (∀ j, j < k -> GoodAt ds j) /\ Below w.heap.size w wr)
  (fun _ i _ => n - (intOf i).toNat)
 case atStart => exact ⟨0, 0, by omega, rfl, rfl, World.ownsRow_lit w #[] 0 (Nat.le_refl _) (by unfold maxLen; omega) rfl, fun j hj => absurd hj (by omega), belA (bel0 w) _⟩
 case round =>
  obtain ⟨k, I, hk, rfl, HI, hown, hgood, hbel⟩ := hrel
  have hsz := hbel.size
  have hI := HI.out
  have hi0 : 0 <= I := by omega
  have hi2 : I <= 12 := by omega
  by_cases hlt : k < n
  ·have hi1 : I < (n : Int) := by omega
   have ht1 : I.toNat = k := by omega
   obtain ⟨hkx, b, o, rfl, hadb, z0, z1, z2, z3⟩ := reads_ent (Hr.out.below hbel) hlt
   have hszk := Hz.out _ (List.getElem_mem hkx)
   have Hks := Lib.hid (keysL_succ ds k hkx)
   have Hkl := Lib.hid (keysL_len ds k (by omega))
   have HDx : ∃ e, ds[k] = e := ⟨_, rfl⟩
   obtain ⟨e, he⟩ := HDx
   have He := Lib.hid he
   rw [he] at z0 z1 z2 z3 hszk Hks
   have bad : entOkB e = false -> dirOkB ds = false := fun h => not_good hkx fun hg => by obtain ⟨_, h2, _⟩ := hg; rw [He.out, h] at h2; cases h2
   have dup : memB (keysL ds k) (keyB e.s) = true -> dirOkB ds = false := fun h => not_good hkx fun hg => by
    obtain ⟨_, _, _, h2⟩ := hg
    obtain ⟨j, hj, he2⟩ := (keys_mem hkx).1 (memB_iff.1 h)
    exact h2 j hj (by rw [He.out]; exact he2)
   have Bad := Lib.hid bad
   have Dup := Lib.hid dup
   obtain ⟨KV, ok, hkv⟩ : ∃ KV ok, keyP e.s = (KV, ok) := ⟨_, _, rfl⟩
   have Hkv := Lib.hid hkv
   have hKz := keyP_size e.s
   have Hno := Lib.hid (keyP_2 e.s)
   rw [hkv] at hKz
   simp only at hKz
   obtain ⟨eh, ei, es, ed⟩ := e
   simp only at z0 z1 z2 z3 hszk
   have hne : b ≠ wr.heap.size := by omega
   clear hI bad dup he hkv
   go_wp2_with fail
   refine (keyOf_impl es hszk _ ((HT.out.below hbel HT.out.pos).al _)).mono ?_
   rintro e w1 ⟨rfl, hb1⟩
   rw [show keyP es = (KV, ok) from Hkv.out]
   simp only
   have hB := (Blk.new' wr 38 #[.int .i64 eh, .int .i64 ei, .string es, .int .i64 ed] wr.heap.size).below hb1 (by simp)
   have b1 := belN (belA hbel _) hb1
   have own1 := own_below (hown.alloc (.cells #[.int .i64 eh, .int .i64 ei, .string es, .int .i64 ed] 38)) hb1 (Nat.le_refl _)
   obtain ⟨A3, c3, rfl, _, _, hr3⟩ := own_vals own1
   have hblt := hB.lt
   have y0 := hB.get (x := .int .i64 eh) 0 rfl
   have y1 := hB.get (x := .int .i64 ei) 1 rfl
   have y2 := hB.get (x := .string es) 2 rfl
   have y3 := hB.get (x := .int .i64 ed) 3 rfl
   have Hr3 := Lib.hid hr3
   have Own1 := Lib.hid own1
   have hk12 : k <= 12 := by omega
   clear hown own1 hr3 z0 z1 z2 z3
   cases ok
   ·have Hf := Lib.hid (Bad.out (by unfold entOkB; rw [<- Hno.out, Hkv.out]; rfl))
    go_wp2_with fail
    go_quiet ((first
    | (go_at_call 175; exact Calls.quiet_of_same (crc_q _ (by omega) _))
    | (go_at_call 176; exact Calls.quiet_of_same (containsS_q _ _ _ _ _ (by omega) _ (Hr3.out.drewN _)))
    | (go_at_call 67; exact Calls.quiet_of_same (within_q _ _ _ _))
    | (go_at_call 177; exact Calls.quiet_of_same (isId_q _ _))))
    go_wp2
    go_ret
    exact ⟨ret_bool Hf.out.symm, below_drewN b1 _⟩
   have hnm := Lib.hid (show nameOkB es = true by have := Hno.out; rw [Hkv.out] at this; exact this.symm)
   have hKB := Lib.hid (show KV = keyB es by have := keyP_ok hnm.out; rw [Hkv.out] at this; injection this)
   have hcb := crcB_bd KV
   obtain ⟨hcb0, hcb1⟩ := hcb
   have hcr := Lib.hid (show hashI es = crcB KV % 16 by rw [hashI_ok hnm.out, hKB.out])
   rcases hh : (crcB KV % 16 != eh) with _ | _
   rotate_left
   ·have Hf := Lib.hid (Bad.out (by unfold entOkB; rw [hcr.out, show (crcB KV % 16 == eh) = false by simpa [bne] using hh]; simp))
    go_wp2_with fail
    go_quiet ((first
    | (go_at_call 175; exact Calls.quiet_of_same (crc_q _ (by omega) _))
    | (go_at_call 176; exact Calls.quiet_of_same (containsS_q _ _ _ _ _ (by omega) _ (Hr3.out.drewN _)))
    | (go_at_call 67; exact Calls.quiet_of_same (within_q _ _ _ _))
    | (go_at_call 177; exact Calls.quiet_of_same (isId_q _ _))))
    go_wp2
    go_ret
    exact ⟨ret_bool Hf.out.symm, below_drewN b1 _⟩
   rcases hm : memB (keysL ds k) KV with _ | _
   rotate_left
   ·have Hf := Lib.hid (Dup.out (by rw [<- hKB.out]; exact hm))
    go_wp2_with fail
    go_quiet ((first
    | (go_at_call 175; exact Calls.quiet_of_same (crc_q _ (by omega) _))
    | (go_at_call 176; exact Calls.quiet_of_same (containsS_q _ _ _ _ _ (by omega) _ (Hr3.out.drewN _)))
    | (go_at_call 67; exact Calls.quiet_of_same (within_q _ _ _ _))
    | (go_at_call 177; exact Calls.quiet_of_same (isId_q _ _))))
    go_wp2
    go_ret
    exact ⟨ret_bool Hf.out.symm, below_drewN b1 _⟩
   rcases hx : inI ei 0 12 with _ | _
   ·have Hf := Lib.hid (Bad.out (by unfold entOkB; rw [hx]; simp))
    go_wp2_with fail
    go_quiet ((first
    | (go_at_call 175; exact Calls.quiet_of_same (crc_q _ (by omega) _))
    | (go_at_call 176; exact Calls.quiet_of_same (containsS_q _ _ _ _ _ (by omega) _ (Hr3.out.drewN _)))
    | (go_at_call 67; exact Calls.quiet_of_same (within_q _ _ _ _))
    | (go_at_call 177; exact Calls.quiet_of_same (isId_q _ _))))
    go_wp2
    go_ret
    exact ⟨ret_bool Hf.out.symm, below_drewN b1 _⟩
   rcases hd : inI ed 1 100000 with _ | _
   ·have Hf := Lib.hid (Bad.out (by unfold entOkB; rw [hd]; simp))
    go_wp2_with fail
    go_quiet ((first
    | (go_at_call 175; exact Calls.quiet_of_same (crc_q _ (by omega) _))
    | (go_at_call 176; exact Calls.quiet_of_same (containsS_q _ _ _ _ _ (by omega) _ (Hr3.out.drewN _)))
    | (go_at_call 67; exact Calls.quiet_of_same (within_q _ _ _ _))
    | (go_at_call 177; exact Calls.quiet_of_same (isId_q _ _))))
    go_wp2
    go_ret
    exact ⟨ret_bool Hf.out.symm, below_drewN b1 _⟩
   have Hok := Lib.hid (show entOkB ⟨eh, ei, es, ed⟩ = true by
    unfold entOkB; rw [hnm.out, hcr.out, hx, hd, show (crcB KV % 16 == eh) = true by simpa [bne] using hh]; rfl)
   have Hmem := Lib.hid hm
   go_wp2_with fail
   go_quiet ((first
    | (go_at_call 175; exact Calls.quiet_of_same (crc_q _ (by omega) _))
    | (go_at_call 176; exact Calls.quiet_of_same (containsS_q _ _ _ _ _ (by omega) _ (Hr3.out.drewN _)))
    | (go_at_call 67; exact Calls.quiet_of_same (within_q _ _ _ _))
    | (go_at_call 177; exact Calls.quiet_of_same (isId_q _ _))))
   rename Nat => nq1
   clear hh hm hx hd
   rcases Nat.eq_zero_or_pos k with hk0 | hk0
   ·have hI0 : decide (0 < I) = false := by have := HI.out; simp; omega
    have Hgd := Lib.hid (show GoodAt ds k from ⟨hkx, by rw [He.out]; exact Hok.out, fun h => absurd h (by omega), fun j hj => absurd hj (by omega)⟩)
    have hbase := b1.size
    go_wp2_with fail
    go_quiet (fail)
    have own3 := own_dN Own1.out (nq1 + nq)
    have b3 := below_drewN b1 (nq1 + nq)
    go_wp2_with (at_builtin; go_must (refine wpList_app _ rfl _ _ _ rfl Tryz.el_str (own3.alloc _) rfl (reads_new _ _ _ _ 1 (by rfl)) rfl (by simp [Value.oneCell']) (max_small (by omega)) (by omega) (by simp; omega) ?_); intro v5 w5 own5 hg5 _ hb5)
    go_roundw
    case rel =>
     refine ⟨k + 1, I + 1, by omega, by go_num, by have := HI.out; show _ = _; omega, ?_, fun j hj => ?_, (belA b3 _).trans hb5⟩
     ·rw [Hks.out, <- hKB.out, SS_append]; exact own5
     ·rcases Nat.lt_or_ge j k with h | h
      ·exact hgood.out j h
      ·rw [show j = k by omega]; exact Hgd.out
    case measure => simp [intOf]; omega
   ·obtain ⟨p, hp⟩ : ∃ p, k = p + 1 := ⟨k - 1, by omega⟩
    have Hp := Lib.hid hp
    have hbelw := (belA hbel (.cells #[.int .i64 eh, .int .i64 ei, .string es, .int .i64 ed] 38)).trans (hb1.mono (by simp; omega))
    obtain ⟨hpx, b', o', he', _, x0, x1, _, _⟩ := reads_ent (Hr.out.below hbelw) (k := p) (by omega)
    injection he' with he'
    injection he' with e1 e2
    subst e1
    subst e2
    have w1' : IntKind.i64.wrap (I - 1) = (p : Int) := by rw [IntWalk.i64_in _ (by omega)]; have := HI.out; omega
    have w2' : I - 1 = (p : Int) := by have := HI.out; omega
    have w3' : IntKind.i64.wrap (p : Int) = (p : Int) := IntWalk.i64_in _ (by omega)
    have p0 : (0 : Int) <= ↑p := by omega
    have p1 : (p : Int) < ↑n := by omega
    have hI2 : 0 < I := by have := HI.out; omega
    have hne2 : b ≠ wr.heap.size := by omega
    clear hp
    rcases hbh : behB ⟨eh, ei, es, ed⟩ ds[p].h ds[p].i with _ | _
    ·have Hf := Lib.hid (not_good hkx fun hg => by
      obtain ⟨_, _, h3, _⟩ := hg
      have h4 := h3 hk0
      have hpp : k - 1 = p := by have := Hp.out; omega
      simp only [hpp, He.out] at h4
      rw [hbh] at h4; cases h4)
     go_wp2_with fail
     go_region_held3 (fun w' => w'.cell? ⟨wr.heap.size, 0, none⟩ = some (.int .i64 eh) /\ w'.cell? ⟨wr.heap.size, 1, none⟩ = some (.int .i64 ei) /\ w'.cell? ⟨wr.heap.size, 2, none⟩ = some (.string es) /\ w'.cell? ⟨wr.heap.size, 3, none⟩ = some (.int .i64 ed) /\ w'.cell? ⟨b, o + p * 4, none⟩ = some (.int .i64 ds[p].h) /\ w'.cell? ⟨b, o + p * 4 + 1, none⟩ = some (.int .i64 ds[p].i))
      (first | go_keep | (refine ⟨keep1 hb9 ?_, keep1 hb9 ?_, keep1 hb9 ?_, keep1 hb9 ?_, keep1 hb9 ?_, keep1 hb9 ?_⟩ <;> go_keep))
      (first
       | (go_at_call 125; refine (isBehind_any ⟨eh, ei, es, ed⟩ _ _ _).mono ?_; rintro e w9 ⟨rfl, hb9⟩))
     go_wp2
     go_ret
     exact ⟨ret_bool Hf.out.symm, belN (below_drewN b1 _).drew hb9⟩
    ·have Hgd := Lib.hid (show GoodAt ds k from by
      refine ⟨hkx, by rw [He.out]; exact Hok.out, fun h1 => ?_, fun j hj he2 => ?_⟩
      ·have hpp : k - 1 = p := by have := Hp.out; omega
       simp only [hpp, He.out]; exact hbh
      ·rw [He.out] at he2
       exact memB_no Hmem.out ((keys_mem hkx).2 ⟨j, hj, by rw [hKB.out]; exact he2⟩))
     go_wp2_with fail
     go_region_held3 (fun w' => w'.cell? ⟨wr.heap.size, 0, none⟩ = some (.int .i64 eh) /\ w'.cell? ⟨wr.heap.size, 1, none⟩ = some (.int .i64 ei) /\ w'.cell? ⟨wr.heap.size, 2, none⟩ = some (.string es) /\ w'.cell? ⟨wr.heap.size, 3, none⟩ = some (.int .i64 ed) /\ w'.cell? ⟨b, o + p * 4, none⟩ = some (.int .i64 ds[p].h) /\ w'.cell? ⟨b, o + p * 4 + 1, none⟩ = some (.int .i64 ds[p].i))
      (first | go_keep | (refine ⟨keep1 hb9 ?_, keep1 hb9 ?_, keep1 hb9 ?_, keep1 hb9 ?_, keep1 hb9 ?_, keep1 hb9 ?_⟩ <;> go_keep))
      (first
       | (go_at_call 125; refine (isBehind_any ⟨eh, ei, es, ed⟩ _ _ _).mono ?_; rintro e w9 ⟨rfl, hb9⟩))
     have own9 := own_below (own_d (own_dN Own1.out nq1)) hb9 (Nat.le_refl _)
     have hbase : w.heap.size <= w9.heap.size := Nat.le_trans b1.size hb9.size
     clear x0 x1 y0 y1 y2 y3
     go_wp2_with (at_builtin; go_must (refine wpList_app _ rfl _ _ _ rfl Tryz.el_str (own9.alloc _) rfl (reads_new _ _ _ _ 1 (by rfl)) rfl (by simp [Value.oneCell']) (max_small (by omega)) (by omega) (by simp; omega) ?_); intro v5 w5 own5 hg5 _ hb5)
     go_roundw
     case rel =>
      refine ⟨k + 1, I + 1, by omega, by go_num, by have := HI.out; show _ = _; omega, ?_, fun j hj => ?_, (belA (belN (below_drewN b1 _).drew hb9) _).trans hb5⟩
      ·rw [Hks.out, <- hKB.out, SS_append]; exact own5
      ·rcases Nat.lt_or_ge j k with h | h
       ·exact hgood.out j h
       ·rw [show j = k by omega]; exact Hgd.out
     case measure => simp [intOf]; omega
  ·obtain rfl : k = n := by omega
   have Hf := Lib.hid (dirOkB_true (dirP_iff.2 ⟨by have := HL.out; omega, fun i hi => hgood.out i (by have := HL.out; omega)⟩))
   clear hI
   have hi1 : ¬ I < (k : Int) := by have := HI.out; omega
   go_wp2
   go_ret
   exact ⟨ret_bool Hf.out.symm, hbel⟩

theorem dirOk_spec (A : Option Addr) (n c : Nat) (ds : List EntD) (hz : ∀ e ∈ ds, e.s.size <= 2000000) (w : World) (hn : n <= 9223372036854775807) (hr : Reads w w.heap.size 4 A n (ES ds)) :
  Calls Tryz.prog 95 #[.slice A n c] w fun e w' => e = .returned (.bool (dirOkB ds)) /\ Below w.heap.size w w' := by
 have hl : ds.length = n := by have := hr.1; rw [ES_length] at this; omega
 have Hr := Lib.hid hr
 have Hz := Lib.hid hz
 have HL := Lib.hid hl
 clear hr hz hl
 by_cases h12 : 12 < n
 ·have Hf := Lib.hid (dirOkB_false (ds := ds) fun hp => by have := hp.1; have := HL.out; omega)
  go_enter Tryz.func95, Tryz.ntmps95
  go_wp2
  go_ret
  exact ⟨ret_bool Hf.out.symm, bel0 w⟩
 go_enter Tryz.func95, Tryz.ntmps95
 go_wp2
 go_loopw [3] (fun i wr => ∃ (k : Nat) (I : Int), k <= n /\ i = .int .i64 I /\ Hid (I = k) /\ Hid (∀ j, j < k -> GoodAt ds j) /\ Below w.heap.size w wr)
  (fun i _ => n - (intOf i).toNat)
 case atStart => exact ⟨0, 0, by omega, rfl, rfl, fun j hj => absurd hj (by omega), bel0 w⟩
 case round =>
  obtain ⟨k, I, hk, rfl, HI, hgood, hbel⟩ := hrel
  have hsz := hbel.size
  have hI := HI.out
  have hi0 : 0 <= I := by omega
  have hi2 : I <= 12 := by omega
  by_cases hlt : k < n
  ·have hi1 : I < (n : Int) := by omega
   have ht1 : I.toNat = k := by omega
   obtain ⟨hkx, b, o, rfl, hadb, z0, z1, z2, z3⟩ := reads_ent (Hr.out.below hbel) hlt
   have hszk := Hz.out _ (List.getElem_mem hkx)
   have HDx : ∃ e, ds[k] = e := ⟨_, rfl⟩
   obtain ⟨e, he⟩ := HDx
   have He := Lib.hid he
   rw [he] at z0 z1 z2 z3 hszk
   have bad : entOkB e = false -> dirOkB ds = false := fun h => not_good hkx fun hg => by obtain ⟨_, h2, _⟩ := hg; rw [He.out, h] at h2; cases h2
   have Bad := Lib.hid bad
   obtain ⟨eh, ei, es, ed⟩ := e
   simp only at z0 z1 z2 z3 hszk
   have hne : b ≠ wr.heap.size := by omega
   clear hI bad he
   have hB := Blk.new' wr 38 #[.int .i64 eh, .int .i64 ei, .string es, .int .i64 ed] wr.heap.size
   have b1 := belA hbel (.cells #[.int .i64 eh, .int .i64 ei, .string es, .int .i64 ed] 38)
   have y0 := hB.get (x := .int .i64 eh) 0 rfl
   have y1 := hB.get (x := .int .i64 ei) 1 rfl
   have y2 := hB.get (x := .string es) 2 rfl
   have y3 := hB.get (x := .int .i64 ed) 3 rfl
   have hk12 : k <= 12 := by omega
   rcases hnm : nameOkB es with _ | _
   ·have Hf := Lib.hid (Bad.out (by unfold entOkB; rw [hnm]; rfl))
    go_wp2_with fail
    refine wp_region_held_drew (S := fun w' => w'.cell? ⟨wr.heap.size, 0, none⟩ = some (.int .i64 eh) /\ w'.cell? ⟨wr.heap.size, 1, none⟩ = some (.int .i64 ei) /\ w'.cell? ⟨wr.heap.size, 2, none⟩ = some (.string es) /\ w'.cell? ⟨wr.heap.size, 3, none⟩ = some (.int .i64 ed)) (by kernel_rfl) ⟨y0, y1, y2, y3⟩ (fun hHeld => ?_)
    refine tkW_ 0 ?_
    refine tkW_ 1 ?_
    refine rd1_ 2 (fun K hK => ?_)
    go_simp
    go_at_call 70
    refine (nameOk_spec es hszk _).mono ?_
    rintro e w7 ⟨rfl, hb7⟩
    refine hK.out _ _ (by obtain ⟨a0, a1, a2, a3⟩ := hHeld; exact ⟨kp_ hb7 a0, kp_ hb7 a1, kp_ hb7 a2, kp_ hb7 a3⟩) (fun hHeld3 => ?_)
    clear hK K
    clear hHeld
    refine tkW_ 3 ?_
    refine tkW_ 4 ?_
    refine tkX_ 5 ?_
    refine tkX_ 6 ?_
    refine tkX_ 7 ?_
    refine tkX_ 8 ?_
    refine tkX_ 9 ?_
    refine tkX_ 10 ?_
    refine tkW_ 11 ?_
    refine tkW_ 12 ?_
    refine tkX_ 13 ?_
    refine tkX_ 14 ?_
    refine tkX_ 15 ?_
    refine tkX_ 16 ?_
    refine tkW_ 17 ?_
    refine tkW_ 18 ?_
    refine tkX_ 19 ?_
    refine tkX_ 20 ?_
    refine tkX_ 21 ?_
    refine tkX_ 22 ?_
    refine tkW_ 23 ?_
    refine tkW_ 24 ?_
    refine tkX_ 25 ?_
    refine tkX_ 26 ?_
    refine tkX_ 27 ?_
    refine tkX_ 28 ?_
    refine tkX_ 29 ?_
    refine tkX_ 30 ?_
    refine tkX_ 31 ?_
    refine tkX_ 32 ?_
    refine tkX_ 33 ?_
    refine tkX_ 34 ?_
    refine tkX_ 35 ?_
    refine tkX_ 36 ?_
    refine tkX_ 37 ?_
    refine tkX_ 38 ?_
    refine tkX_ 39 ?_
    refine tkW_ 40 ?_
    refine wpAnyH_done (by kernel_rfl) ?_ _
    go_wp2
    go_ret
    exact ⟨ret_bool Hf.out.symm, belN b1.drew hb7⟩
   rcases hh : (eh != hashI es) with _ | _
   rotate_left
   ·have Hf := Lib.hid (Bad.out (by unfold entOkB; rw [show (hashI es == eh) = false by rw [beq_eq_false_iff_ne]; intro e; rw [e] at hh; simp at hh]; simp))
    go_wp2_with fail
    refine wp_region_held_drew (S := fun w' => w'.cell? ⟨wr.heap.size, 0, none⟩ = some (.int .i64 eh) /\ w'.cell? ⟨wr.heap.size, 1, none⟩ = some (.int .i64 ei) /\ w'.cell? ⟨wr.heap.size, 2, none⟩ = some (.string es) /\ w'.cell? ⟨wr.heap.size, 3, none⟩ = some (.int .i64 ed)) (by kernel_rfl) ⟨y0, y1, y2, y3⟩ (fun hHeld => ?_)
    refine tkW_ 0 ?_
    refine tkW_ 1 ?_
    refine rd1_ 2 (fun K hK => ?_)
    go_simp
    go_at_call 70
    refine (nameOk_spec es hszk _).mono ?_
    rintro e w7 ⟨rfl, hb7⟩
    refine hK.out _ _ (by obtain ⟨a0, a1, a2, a3⟩ := hHeld; exact ⟨kp_ hb7 a0, kp_ hb7 a1, kp_ hb7 a2, kp_ hb7 a3⟩) (fun hHeld44 => ?_)
    clear hK K
    clear hHeld
    refine tkW_ 3 ?_
    refine tkW_ 4 ?_
    refine tkW_ 5 ?_
    refine tkW_ 6 ?_
    refine tkW_ 7 ?_
    refine tkW_ 8 ?_
    refine rd1_ 9 (fun K hK => ?_)
    go_simp
    go_at_call 141
    refine (hashOf_spec es hszk _).mono ?_
    rintro e w8 ⟨rfl, hb8⟩
    refine hK.out _ _ (by obtain ⟨a0, a1, a2, a3⟩ := hHeld44; exact ⟨kp_ hb8 a0, kp_ hb8 a1, kp_ hb8 a2, kp_ hb8 a3⟩) (fun hHeld51 => ?_)
    clear hK K
    clear hHeld44
    refine tkW_ 10 ?_
    refine tkW_ 11 ?_
    refine tkW_ 12 ?_
    refine tkX_ 13 ?_
    refine tkX_ 14 ?_
    refine tkX_ 15 ?_
    refine tkX_ 16 ?_
    refine tkW_ 17 ?_
    refine tkW_ 18 ?_
    refine tkX_ 19 ?_
    refine tkX_ 20 ?_
    refine tkX_ 21 ?_
    refine tkX_ 22 ?_
    refine tkW_ 23 ?_
    refine tkW_ 24 ?_
    refine tkX_ 25 ?_
    refine tkX_ 26 ?_
    refine tkX_ 27 ?_
    refine tkX_ 28 ?_
    refine tkX_ 29 ?_
    refine tkX_ 30 ?_
    refine tkX_ 31 ?_
    refine tkX_ 32 ?_
    refine tkX_ 33 ?_
    refine tkX_ 34 ?_
    refine tkX_ 35 ?_
    refine tkX_ 36 ?_
    refine tkX_ 37 ?_
    refine tkX_ 38 ?_
    refine tkX_ 39 ?_
    refine tkW_ 40 ?_
    refine wpAnyH_done (by kernel_rfl) ?_ _
    go_wp2
    go_ret
    exact ⟨ret_bool Hf.out.symm, belN (belN b1.drew hb7) hb8⟩
   have hhe := Lib.hid (show (hashI es == eh) = true by rw [beq_iff_eq]; have := hh; simp at this; exact this.symm)
   rcases hx : inI ei 0 12 with _ | _
   ·have Hf := Lib.hid (Bad.out (by unfold entOkB; rw [hx]; simp))
    go_wp2_with fail
    refine wp_region_held_drew (S := fun w' => w'.cell? ⟨wr.heap.size, 0, none⟩ = some (.int .i64 eh) /\ w'.cell? ⟨wr.heap.size, 1, none⟩ = some (.int .i64 ei) /\ w'.cell? ⟨wr.heap.size, 2, none⟩ = some (.string es) /\ w'.cell? ⟨wr.heap.size, 3, none⟩ = some (.int .i64 ed)) (by kernel_rfl) ⟨y0, y1, y2, y3⟩ (fun hHeld => ?_)
    refine tkW_ 0 ?_
    refine tkW_ 1 ?_
    refine rd1_ 2 (fun K hK => ?_)
    go_simp
    go_at_call 70
    refine (nameOk_spec es hszk _).mono ?_
    rintro e w7 ⟨rfl, hb7⟩
    refine hK.out _ _ (by obtain ⟨a0, a1, a2, a3⟩ := hHeld; exact ⟨kp_ hb7 a0, kp_ hb7 a1, kp_ hb7 a2, kp_ hb7 a3⟩) (fun hHeld85 => ?_)
    clear hK K
    clear hHeld
    refine tkW_ 3 ?_
    refine tkW_ 4 ?_
    refine tkW_ 5 ?_
    refine tkW_ 6 ?_
    refine tkW_ 7 ?_
    refine tkW_ 8 ?_
    refine rd1_ 9 (fun K hK => ?_)
    go_simp
    go_at_call 141
    refine (hashOf_spec es hszk _).mono ?_
    rintro e w8 ⟨rfl, hb8⟩
    refine hK.out _ _ (by obtain ⟨a0, a1, a2, a3⟩ := hHeld85; exact ⟨kp_ hb8 a0, kp_ hb8 a1, kp_ hb8 a2, kp_ hb8 a3⟩) (fun hHeld92 => ?_)
    clear hK K
    clear hHeld85
    refine tkW_ 10 ?_
    refine tkW_ 11 ?_
    refine tkW_ 12 ?_
    refine tkW_ 13 ?_
    refine tkW_ 14 ?_
    refine rd1_ 15 (fun K hK => ?_)
    go_simp
    go_at_call 56
    refine (l1In_any _ _ _ _).mono ?_
    rintro e w' ⟨rfl, rfl⟩
    refine hK.out _ _ hHeld92 (fun hHeld98 => ?_)
    clear hK K
    refine tkW_ 16 ?_
    refine tkW_ 17 ?_
    refine tkW_ 18 ?_
    refine tkX_ 19 ?_
    refine tkX_ 20 ?_
    refine tkX_ 21 ?_
    refine tkX_ 22 ?_
    refine tkW_ 23 ?_
    refine tkW_ 24 ?_
    refine tkX_ 25 ?_
    refine tkX_ 26 ?_
    refine tkX_ 27 ?_
    refine tkX_ 28 ?_
    refine tkX_ 29 ?_
    refine tkX_ 30 ?_
    refine tkX_ 31 ?_
    refine tkX_ 32 ?_
    refine tkX_ 33 ?_
    refine tkX_ 34 ?_
    refine tkX_ 35 ?_
    refine tkX_ 36 ?_
    refine tkX_ 37 ?_
    refine tkX_ 38 ?_
    refine tkX_ 39 ?_
    refine tkW_ 40 ?_
    refine wpAnyH_done (by kernel_rfl) ?_ _
    go_wp2
    go_ret
    exact ⟨ret_bool Hf.out.symm, belN (belN b1.drew hb7) hb8⟩
   rcases hd : inI ed 1 100000 with _ | _
   ·have Hf := Lib.hid (Bad.out (by unfold entOkB; rw [hd]; simp))
    go_wp2_with fail
    refine wp_region_held_drew (S := fun w' => w'.cell? ⟨wr.heap.size, 0, none⟩ = some (.int .i64 eh) /\ w'.cell? ⟨wr.heap.size, 1, none⟩ = some (.int .i64 ei) /\ w'.cell? ⟨wr.heap.size, 2, none⟩ = some (.string es) /\ w'.cell? ⟨wr.heap.size, 3, none⟩ = some (.int .i64 ed)) (by kernel_rfl) ⟨y0, y1, y2, y3⟩ (fun hHeld => ?_)
    refine tkW_ 0 ?_
    refine tkW_ 1 ?_
    refine rd1_ 2 (fun K hK => ?_)
    go_simp
    go_at_call 70
    refine (nameOk_spec es hszk _).mono ?_
    rintro e w7 ⟨rfl, hb7⟩
    refine hK.out _ _ (by obtain ⟨a0, a1, a2, a3⟩ := hHeld; exact ⟨kp_ hb7 a0, kp_ hb7 a1, kp_ hb7 a2, kp_ hb7 a3⟩) (fun hHeld126 => ?_)
    clear hK K
    clear hHeld
    refine tkW_ 3 ?_
    refine tkW_ 4 ?_
    refine tkW_ 5 ?_
    refine tkW_ 6 ?_
    refine tkW_ 7 ?_
    refine tkW_ 8 ?_
    refine rd1_ 9 (fun K hK => ?_)
    go_simp
    go_at_call 141
    refine (hashOf_spec es hszk _).mono ?_
    rintro e w8 ⟨rfl, hb8⟩
    refine hK.out _ _ (by obtain ⟨a0, a1, a2, a3⟩ := hHeld126; exact ⟨kp_ hb8 a0, kp_ hb8 a1, kp_ hb8 a2, kp_ hb8 a3⟩) (fun hHeld133 => ?_)
    clear hK K
    clear hHeld126
    refine tkW_ 10 ?_
    refine tkW_ 11 ?_
    refine tkW_ 12 ?_
    refine tkW_ 13 ?_
    refine tkW_ 14 ?_
    refine rd1_ 15 (fun K hK => ?_)
    go_simp
    go_at_call 56
    refine (l1In_any _ _ _ _).mono ?_
    rintro e w' ⟨rfl, rfl⟩
    refine hK.out _ _ hHeld133 (fun hHeld139 => ?_)
    clear hK K
    refine tkW_ 16 ?_
    refine tkW_ 17 ?_
    refine tkW_ 18 ?_
    refine tkW_ 19 ?_
    refine tkW_ 20 ?_
    refine rd1_ 21 (fun K hK => ?_)
    go_simp
    go_at_call 56
    refine (l1In_any _ _ _ _).mono ?_
    rintro e w' ⟨rfl, rfl⟩
    refine hK.out _ _ hHeld139 (fun hHeld145 => ?_)
    clear hK K
    refine tkW_ 22 ?_
    refine tkW_ 23 ?_
    refine tkW_ 24 ?_
    refine tkX_ 25 ?_
    refine tkX_ 26 ?_
    refine tkX_ 27 ?_
    refine tkX_ 28 ?_
    refine tkX_ 29 ?_
    refine tkX_ 30 ?_
    refine tkX_ 31 ?_
    refine tkX_ 32 ?_
    refine tkX_ 33 ?_
    refine tkX_ 34 ?_
    refine tkX_ 35 ?_
    refine tkX_ 36 ?_
    refine tkX_ 37 ?_
    refine tkX_ 38 ?_
    refine tkX_ 39 ?_
    refine tkW_ 40 ?_
    refine wpAnyH_done (by kernel_rfl) ?_ _
    go_wp2
    go_ret
    exact ⟨ret_bool Hf.out.symm, belN (belN b1.drew hb7) hb8⟩
   have Hok := Lib.hid (show entOkB ⟨eh, ei, es, ed⟩ = true by unfold entOkB; rw [hnm, hhe.out, hx, hd]; rfl)
   have Hnm := Lib.hid hnm
   rcases Nat.eq_zero_or_pos k with hk0 | hk0
   ·have hI0 : decide (0 < I) = false := by have := HI.out; simp; omega
    have Hgd := Lib.hid (show GoodAt ds k from ⟨hkx, by rw [He.out]; exact Hok.out, fun h => absurd h (by omega), fun j hj => absurd hj (by omega)⟩)
    have Hk0 := Lib.hid hk0
    clear hk0
    go_wp2_with fail
    refine wp_region_held_drew (S := fun w' => w'.cell? ⟨wr.heap.size, 0, none⟩ = some (.int .i64 eh) /\ w'.cell? ⟨wr.heap.size, 1, none⟩ = some (.int .i64 ei) /\ w'.cell? ⟨wr.heap.size, 2, none⟩ = some (.string es) /\ w'.cell? ⟨wr.heap.size, 3, none⟩ = some (.int .i64 ed)) (by kernel_rfl) ⟨y0, y1, y2, y3⟩ (fun hHeld => ?_)
    refine tkW_ 0 ?_
    refine tkW_ 1 ?_
    refine rd1_ 2 (fun K hK => ?_)
    go_simp
    go_at_call 70
    refine (nameOk_spec es hszk _).mono ?_
    rintro e w7 ⟨rfl, hb7⟩
    refine hK.out _ _ (by obtain ⟨a0, a1, a2, a3⟩ := hHeld; exact ⟨kp_ hb7 a0, kp_ hb7 a1, kp_ hb7 a2, kp_ hb7 a3⟩) (fun hHeld167 => ?_)
    clear hK K
    clear hHeld
    refine tkW_ 3 ?_
    refine tkW_ 4 ?_
    refine tkW_ 5 ?_
    refine tkW_ 6 ?_
    refine tkW_ 7 ?_
    refine tkW_ 8 ?_
    refine rd1_ 9 (fun K hK => ?_)
    go_simp
    go_at_call 141
    refine (hashOf_spec es hszk _).mono ?_
    rintro e w8 ⟨rfl, hb8⟩
    refine hK.out _ _ (by obtain ⟨a0, a1, a2, a3⟩ := hHeld167; exact ⟨kp_ hb8 a0, kp_ hb8 a1, kp_ hb8 a2, kp_ hb8 a3⟩) (fun hHeld174 => ?_)
    clear hK K
    clear hHeld167
    refine tkW_ 10 ?_
    refine tkW_ 11 ?_
    refine tkW_ 12 ?_
    refine tkW_ 13 ?_
    refine tkW_ 14 ?_
    refine rd1_ 15 (fun K hK => ?_)
    go_simp
    go_at_call 56
    refine (l1In_any _ _ _ _).mono ?_
    rintro e w' ⟨rfl, rfl⟩
    refine hK.out _ _ hHeld174 (fun hHeld180 => ?_)
    clear hK K
    refine tkW_ 16 ?_
    refine tkW_ 17 ?_
    refine tkW_ 18 ?_
    refine tkW_ 19 ?_
    refine tkW_ 20 ?_
    refine rd1_ 21 (fun K hK => ?_)
    go_simp
    go_at_call 56
    refine (l1In_any _ _ _ _).mono ?_
    rintro e w' ⟨rfl, rfl⟩
    refine hK.out _ _ hHeld180 (fun hHeld186 => ?_)
    clear hK K
    refine tkW_ 22 ?_
    refine tkW_ 23 ?_
    refine tkW_ 24 ?_
    refine tkW_ 25 ?_
    refine tkW_ 26 ?_
    refine tkW_ 27 ?_
    refine tkX_ 28 ?_
    refine tkX_ 29 ?_
    refine tkX_ 30 ?_
    refine tkX_ 31 ?_
    refine tkX_ 32 ?_
    refine tkX_ 33 ?_
    refine tkX_ 34 ?_
    refine tkX_ 35 ?_
    refine tkX_ 36 ?_
    refine tkX_ 37 ?_
    refine tkX_ 38 ?_
    refine tkW_ 39 ?_
    refine tkW_ 40 ?_
    refine wpAnyH_done (by kernel_rfl) ?_ _
    have b8 := belN (belN b1.drew hb7) hb8
    have hI9 : ¬ (0 : Int) < I := by have := HI.out; have := Hk0.out; omega
    clear y0 y1 y2 y3 hnm hh hx hd
    go_wp2
    refine wp_loop_rounds 1 ?_
    rw [rounds_succ]
    go_wp2
    go_roundw
    case rel =>
     refine ⟨k + 1, I + 1, by omega, by go_num, by have := HI.out; show _ = _; omega, fun j hj => ?_, b8⟩
     rcases Nat.lt_or_ge j k with h | h
     ·exact hgood.out j h
     ·rw [show j = k by omega]; exact Hgd.out
    case measure => simp [intOf]; omega
   ·obtain ⟨p, hp⟩ : ∃ p, k = p + 1 := ⟨k - 1, by omega⟩
    have Hp := Lib.hid hp
    obtain ⟨hpx, b', o', he', _, x0, x1, x2, x3⟩ := reads_ent (Hr.out.below b1) (k := p) (by omega)
    injection he' with he'
    injection he' with e1 e2
    subst e1
    subst e2
    have w1' : IntKind.i64.wrap (I - 1) = (p : Int) := by rw [IntWalk.i64_in _ (by omega)]; have := HI.out; omega
    have w2' : I - 1 = (p : Int) := by have := HI.out; omega
    have w3' : IntKind.i64.wrap (p : Int) = (p : Int) := IntWalk.i64_in _ (by omega)
    have p0 : (0 : Int) <= ↑p := by omega
    have p1 : (p : Int) < ↑n := by omega
    have hI2 : 0 < I := by have := HI.out; omega
    clear hp
    have hlb := less_beh ds[p] ⟨eh, ei, es, ed⟩
    simp only at hlb
    rcases hbh : behB ⟨eh, ei, es, ed⟩ ds[p].h ds[p].i with _ | _
    ·have Hf := Lib.hid (not_good hkx fun hg => by
      obtain ⟨_, _, h3, _⟩ := hg
      have h4 := h3 hk0
      have hpp : k - 1 = p := by have := Hp.out; omega
      simp only [hpp, He.out] at h4
      rw [hbh] at h4; cases h4)
     have hlb2 := hlb.trans hbh
     clear hlb hbh
     go_wp2_with fail
     go_region_held3 (fun w' => w'.cell? ⟨wr.heap.size, 0, none⟩ = some (.int .i64 eh) /\ w'.cell? ⟨wr.heap.size, 1, none⟩ = some (.int .i64 ei) /\ w'.cell? ⟨wr.heap.size, 2, none⟩ = some (.string es) /\ w'.cell? ⟨wr.heap.size, 3, none⟩ = some (.int .i64 ed) /\ w'.cell? ⟨b, o + p * 4, none⟩ = some (.int .i64 ds[p].h) /\ w'.cell? ⟨b, o + p * 4 + 1, none⟩ = some (.int .i64 ds[p].i) /\ w'.cell? ⟨b, o + p * 4 + 2, none⟩ = some (.string ds[p].s) /\ w'.cell? ⟨b, o + p * 4 + 3, none⟩ = some (.int .i64 ds[p].d))
      (first | go_keep | (refine ⟨keep1 hb9 ?_, keep1 hb9 ?_, keep1 hb9 ?_, keep1 hb9 ?_, keep1 hb9 ?_, keep1 hb9 ?_, keep1 hb9 ?_, keep1 hb9 ?_⟩ <;> go_keep) | (refine ⟨keep1 hb8 ?_, keep1 hb8 ?_, keep1 hb8 ?_, keep1 hb8 ?_, keep1 hb8 ?_, keep1 hb8 ?_, keep1 hb8 ?_, keep1 hb8 ?_⟩ <;> go_keep) | (refine ⟨keep1 hb7 ?_, keep1 hb7 ?_, keep1 hb7 ?_, keep1 hb7 ?_, keep1 hb7 ?_, keep1 hb7 ?_, keep1 hb7 ?_, keep1 hb7 ?_⟩ <;> go_keep))
      (first
       | (go_at_call 70; refine (nameOk_spec es hszk _).mono ?_; rintro e w7 ⟨rfl, hb7⟩)
       | (go_at_call 141; refine (hashOf_spec es hszk _).mono ?_; rintro e w8 ⟨rfl, hb8⟩)
       | (go_at_call 56; refine (l1In_any _ _ _ _).mono ?_; rintro e w' ⟨rfl, rfl⟩)
       | (go_at_call 128; refine (l5Less_any ds[p] _ _ _).mono ?_; rintro e w9 ⟨rfl, hb9⟩))
     go_wp2
     go_ret
     exact ⟨ret_bool Hf.out.symm, belN (belN (belN b1.drew hb7) hb8) hb9⟩
    ·have Hbh := Lib.hid (show ∀ h1 : 0 < k, behB ds[k] (ds[k - 1]'(by omega)).h (ds[k - 1]'(by omega)).i = true by
      intro h1
      have hpp : k - 1 = p := by have := Hp.out; omega
      simp only [hpp, He.out]; exact hbh)
     have hlb2 := hlb.trans hbh
     clear hlb hbh
     go_wp2_with fail
     go_region_held3 (fun w' => w'.cell? ⟨wr.heap.size, 0, none⟩ = some (.int .i64 eh) /\ w'.cell? ⟨wr.heap.size, 1, none⟩ = some (.int .i64 ei) /\ w'.cell? ⟨wr.heap.size, 2, none⟩ = some (.string es) /\ w'.cell? ⟨wr.heap.size, 3, none⟩ = some (.int .i64 ed) /\ w'.cell? ⟨b, o + p * 4, none⟩ = some (.int .i64 ds[p].h) /\ w'.cell? ⟨b, o + p * 4 + 1, none⟩ = some (.int .i64 ds[p].i) /\ w'.cell? ⟨b, o + p * 4 + 2, none⟩ = some (.string ds[p].s) /\ w'.cell? ⟨b, o + p * 4 + 3, none⟩ = some (.int .i64 ds[p].d))
      (first | go_keep | (refine ⟨keep1 hb9 ?_, keep1 hb9 ?_, keep1 hb9 ?_, keep1 hb9 ?_, keep1 hb9 ?_, keep1 hb9 ?_, keep1 hb9 ?_, keep1 hb9 ?_⟩ <;> go_keep) | (refine ⟨keep1 hb8 ?_, keep1 hb8 ?_, keep1 hb8 ?_, keep1 hb8 ?_, keep1 hb8 ?_, keep1 hb8 ?_, keep1 hb8 ?_, keep1 hb8 ?_⟩ <;> go_keep) | (refine ⟨keep1 hb7 ?_, keep1 hb7 ?_, keep1 hb7 ?_, keep1 hb7 ?_, keep1 hb7 ?_, keep1 hb7 ?_, keep1 hb7 ?_, keep1 hb7 ?_⟩ <;> go_keep))
      (first
       | (go_at_call 70; refine (nameOk_spec es hszk _).mono ?_; rintro e w7 ⟨rfl, hb7⟩)
       | (go_at_call 141; refine (hashOf_spec es hszk _).mono ?_; rintro e w8 ⟨rfl, hb8⟩)
       | (go_at_call 56; refine (l1In_any _ _ _ _).mono ?_; rintro e w' ⟨rfl, rfl⟩)
       | (go_at_call 128; refine (l5Less_any ds[p] _ _ _).mono ?_; rintro e w9 ⟨rfl, hb9⟩))
     have b9 := belN (belN (belN b1.drew hb7) hb8) hb9
     have hB9 := ((hB.drew.below hb7 hB.drew.lt).below hb8 (hB.drew.below hb7 hB.drew.lt).lt).below hb9 ((hB.drew.below hb7 hB.drew.lt).below hb8 (hB.drew.below hb7 hB.drew.lt).lt).lt
     clear x0 x1 x2 x3 y0 y1 y2 y3 hnm hh hx hd hB
     have hwz : ∃ wz, wz = wr := ⟨_, rfl⟩
     obtain ⟨wz, hwz⟩ := hwz
     subst hwz
     go_wp2
     go_loopw [5] (fun i wr => ∃ (j : Nat), j <= k /\ i = .int .i64 j /\ Hid (∀ m (hm : m < j) (hmk : m < ds.length), keyB ds[m].s ≠ keyB es) /\ Below w9.heap.size w9 wr)
      (fun i _ => k - (intOf i).toNat)
     case atStart => exact ⟨0, by omega, rfl, fun m hm => absurd hm (by omega), bel0 w9⟩
     case round =>
      obtain ⟨j, hj, rfl, hdist, hbel9⟩ := hrel
      have b10 := belN b9 hbel9
      have hBr := hB9.below hbel9 hB9.lt
      have hIk := HI.out
      have v2 := hBr.get (x := .string es) 2 rfl
      have hnb : b ≠ wz.heap.size := by omega
      by_cases hjk : j < k
      ·have hjI : (j : Int) < I := by omega
       have hjn : (j : Int) < (n : Int) := by omega
       have hj0 : (0 : Int) <= (j : Int) := by omega
       clear hIk
       obtain ⟨hjx, b2, o2, he2, _, _, _, u2, _⟩ := reads_ent (Hr.out.below b10) (k := j) (by omega)
       injection he2 with he2
       injection he2 with e3 e4
       subst e3
       subst e4
       have hsj := Hz.out _ (List.getElem_mem hjx)
       have Hgj := Lib.hid (show nameOkB ds[j].s = true by obtain ⟨_, h, _⟩ := hgood.out j hjk; exact (entOk_parts h).1)
       obtain ⟨sj, hsjx⟩ : ∃ sj, ds[j].s = sj := ⟨_, rfl⟩
       have Hsj := Lib.hid hsjx
       rw [hsjx] at u2 hsj Hgj
       clear hsjx
       rcases hal : alikeB sj es with _ | _
       ·have Hal := Lib.hid (show keyB sj ≠ keyB es from fun h => by rw [(alikeB_eq Hgj.out Hnm.out).2 h] at hal; cases hal)
        go_wp2_with fail
        go_region_held3 (fun w' => w'.cell? ⟨b, o + j * 4 + 2, none⟩ = some (.string sj) /\ w'.cell? ⟨wz.heap.size, 2, none⟩ = some (.string es)) (first | go_keep | (refine ⟨keep1 hb10 ?_, keep1 hb10 ?_⟩ <;> go_keep))
         (first
          | (go_at_call 41; refine (alike_spec sj es hsj hszk _).mono ?_; rintro e w10 ⟨rfl, hb10⟩))
        go_wp2
        go_roundw
        case rel =>
         refine ⟨j + 1, by omega, by go_num, fun m hm hmk => ?_, belN hbel9.drew hb10⟩
         rcases Nat.lt_or_ge m j with h | h
         ·exact hdist.out m h hmk
         ·have hmj : m = j := by omega
          subst hmj
          rw [Hsj.out]; exact Hal.out
        case measure => simp [intOf]; omega
       ·have Hf := Lib.hid (not_good hkx fun hg => by
         obtain ⟨_, _, _, h4⟩ := hg
         have h5 := h4 j hjk
         rw [He.out, Hsj.out] at h5
         exact h5 ((alikeB_eq Hgj.out Hnm.out).1 hal))
        go_wp2_with fail
        go_region_held3 (fun w' => w'.cell? ⟨b, o + j * 4 + 2, none⟩ = some (.string sj) /\ w'.cell? ⟨wz.heap.size, 2, none⟩ = some (.string es)) (first | go_keep | (refine ⟨keep1 hb10 ?_, keep1 hb10 ?_⟩ <;> go_keep))
         (first
          | (go_at_call 41; refine (alike_spec sj es hsj hszk _).mono ?_; rintro e w10 ⟨rfl, hb10⟩))
        go_wp2
        go_ret
        exact ⟨ret_bool Hf.out.symm, belN b10.drew hb10⟩
      ·have hjI : ¬ (j : Int) < I := by omega
       have Hgd := Lib.hid (show GoodAt ds k from ⟨hkx, by rw [He.out]; exact Hok.out, Hbh.out, fun m hm => by rw [He.out]; exact hdist.out m (by omega) (by omega)⟩)
       clear hIk
       go_wp2
       go_roundw
       case rel =>
        refine ⟨k + 1, I + 1, by omega, by go_num, by have := HI.out; show _ = _; omega, fun m hm => ?_, b10⟩
        rcases Nat.lt_or_ge m k with h | h
        ·exact hgood.out m h
        ·rw [show m = k by omega]; exact Hgd.out
       case measure => simp [intOf]; omega
  ·obtain rfl : k = n := by omega
   have Hf := Lib.hid (dirOkB_true (dirP_iff.2 ⟨by have := HL.out; omega, fun i hi => hgood.out i (by have := HL.out; omega)⟩))
   clear hI
   have hi1 : ¬ I < (k : Int) := by have := HI.out; omega
   go_wp2
   go_ret
   exact ⟨ret_bool Hf.out.symm, hbel⟩

end Go.Proofs.YtjjniapamdleoaaGreatDoor
