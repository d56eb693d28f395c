/- Right directories: plain table, the program, the reference. -/
import Derived.Test.YtbchbmcphbeikaaGreatDoorApart
import Derived.Test.YtbchbmcphbeikaaGreatDoorPgOk
import Derived.Test.YtbchbmcphbeikaaGreatDoorStrRows
namespace Go.Proofs.YtbchbmcphbeikaaGreatDoor
open Go Go.RowKit

/-- A text stands among others. -/
def memB (xs : List ByteArray) (q : ByteArray) : Bool := xs.any fun y => q.toList == y.toList
theorem memB_iff {xs : List ByteArray} {q : ByteArray} : memB xs q = true ↔ q ∈ xs := by
  unfold memB
  rw [List.any_eq_true]
  constructor
  · rintro ⟨y, hy, h⟩
    rw [beq_iff_eq, ByteArray.toList_eq, ByteArray.toList_eq] at h
    rw [bytes_ext h]; exact hy
  · intro h; exact ⟨q, h, by simp⟩
theorem memB_no {xs : List ByteArray} {q : ByteArray} (h : memB xs q = false) : q ∉ xs := fun hm => by rw [memB_iff.2 hm] at h; cases h
theorem memB_snoc (xs : List ByteArray) (y q : ByteArray) : memB (xs ++ [y]) q = (memB xs q || (q.toList == y.toList)) := by unfold memB; rw [List.any_append]; simp

set_option maxHeartbeats 1000000 in
theorem indexS_any (A : Option Addr) (n c : Nat) (xs : List ByteArray) (q : ByteArray) (hn : n ≤ 10000000) (w : World) (hr : Reads w w.heap.size 1 A n (SS xs)) :
    Calls Tryz.prog 97 #[.slice A n c, .string q] w fun e w' => ∃ r : Int, e = .returned (.int .i64 r) ∧ decide (0 ≤ r) = memB xs q ∧ w = w' := by
  have hl : xs.length = n := by have := hr.1; rw [SS_length] at this; omega
  have Hr := Lib.hid hr
  clear hr
  go_enter Tryz.func97, Tryz.ntmps97
  go_wp2
  go_loop [8] (fun i => ∃ (j : Nat), j ≤ n ∧ i = .int .i64 j ∧ Hid (memB (xs.take j) q = false))
    (fun i => n - (intOf i).toNat)
  case atStart => exact ⟨0, by omega, rfl, rfl⟩
  case round =>
    obtain ⟨j, hj, rfl, hno⟩ := hrel
    by_cases hlt : j < n
    · obtain ⟨hkx, ad, rfl, hadb, z0⟩ := reads_str Hr.out hlt
      have q0 : (0 : Int) ≤ ↑j := by omega
      have q1 : (↑j : Int) < ↑n := by omega
      have Hs := Lib.hid (List.take_succ_eq_append_getElem hkx)
      have Hm := Lib.hid (List.getElem_mem hkx)
      obtain ⟨x, hx⟩ : ∃ x, xs[j] = x := ⟨_, rfl⟩
      rw [hx] at z0 Hs Hm
      clear hx
      rcases he : (q.toList == x.toList) with _ | _
      · have Hn := Lib.hid (show memB (xs.take (j + 1)) q = false by rw [Hs.out, memB_snoc, hno.out, he]; rfl)
        go_wp2
        go_round
        case rel => exact ⟨j + 1, by omega, by go_num, Hn.out⟩
        case measure => simp [intOf]; omega
      · have Hn := Lib.hid (show memB xs q = true from List.any_eq_true.2 ⟨x, Hm.out, he⟩)
        go_wp2
        go_ret
        exact ⟨_, rfl, by rw [Hn.out]; simp, rfl⟩
    · have Hn := Lib.hid (show memB xs q = false by have := hno.out; rwa [List.take_of_length_le (by omega)] at this)
      go_wp2
      go_ret
      exact ⟨_, rfl, by rw [Hn.out]; rfl, rfl⟩

set_option maxHeartbeats 1000000 in
theorem containsS_any (A : Option Addr) (n c : Nat) (xs : List ByteArray) (q : ByteArray) (hn : n ≤ 10000000) (w : World) (hr : Reads w w.heap.size 1 A n (SS xs)) :
    Calls Tryz.prog 77 #[.slice A n c, .string q] w fun e w' => e = .returned (.bool (memB xs q)) ∧ w = w' := by
  have Hr := Lib.hid hr
  clear hr
  go_enter Tryz.func77, Tryz.ntmps77
  go_wp2_with fail
  refine (indexS_any A n c xs q hn _ Hr.out).mono ?_
  rintro e w' ⟨r, rfl, hr, rfl⟩
  have Hd := Lib.hid hr
  clear hr
  go_wp2
  go_ret
  exact ⟨ret_bool Hd.out, rfl⟩

theorem isId_any (x : Int) (w : World) : Calls Tryz.prog 51 #[.int .i64 x] w fun e w' => e = .returned (.bool (inI x 1 100000)) ∧ w = w' := by
  go_enter Tryz.func51, Tryz.ntmps51
  go_wp2_with (go_at_call 74; refine (within_any _ _ _ _).mono ?_; rintro e w' ⟨rfl, rfl⟩)
  go_ret
  exact ⟨rfl, rfl⟩

theorem alikeB_eq {a b : ByteArray} (ha : nameOkB a = true) (hb : nameOkB b = true) : alikeB a b = true ↔ keyB a = keyB b := by
  unfold alikeB
  rw [ha, hb]
  simp

set_option maxHeartbeats 1000000 in
theorem alike_spec (a b : ByteArray) (ha : a.size ≤ 2000000) (hb : b.size ≤ 2000000) (w : World) :
    Calls Tryz.prog 63 #[.string a, .string b] w fun e w' => e = .returned (.bool (alikeB a b)) ∧ Below w.heap.size w w' := by
  have Ka := Lib.hid (keyP_2 a)
  have Kb := Lib.hid (keyP_2 b)
  obtain ⟨x, p, hx⟩ : ∃ x p, keyP a = (x, p) := ⟨_, _, rfl⟩
  obtain ⟨y, q, hy⟩ : ∃ y q, keyP b = (y, q) := ⟨_, _, rfl⟩
  have Hx := Lib.hid hx
  have Hy := Lib.hid hy
  have hf : ∀ z : Bool, (x.toList == y.toList) = z → alikeB a b = (p && (q && z)) := by
    intro z hz
    have hp : nameOkB a = p := by rw [← keyP_2, hx]
    have hq : nameOkB b = q := by rw [← keyP_2, hy]
    unfold alikeB
    rw [hp, hq]
    cases p
    · rfl
    · cases q
      · rfl
      · rw [keyP_ok hp] at hx
        rw [keyP_ok hq] at hy
        injection hx with hx _
        injection hy with hy _
        rw [hx, hy]
        cases z
        · rw [beq_eq_false_iff_ne, ne_eq, ByteArray.toList_eq, ByteArray.toList_eq] at hz
          simp only [Bool.true_and, decide_eq_false_iff_not]
          exact fun e => hz (by rw [e])
        · rw [beq_iff_eq, ByteArray.toList_eq, ByteArray.toList_eq] at hz
          simp [bytes_ext hz]
  clear hx hy
  rcases hz : (x.toList == y.toList) with _ | _
  all_goals
    have Hf := Lib.hid (hf _ hz)
    cases p <;> cases q
    all_goals
      clear hf
      go_enter Tryz.func63, Tryz.ntmps63
      go_wp2_with fail
      refine (keyOf_spec a ha _).mono ?_
      rintro e w1 ⟨rfl, hb1⟩
      rw [Hx.out]
      simp only
      go_wp2_with fail
      refine (keyOf_spec b hb _).mono ?_
      rintro e w2 ⟨rfl, hb2⟩
      rw [Hy.out]
      simp only
      go_wp2
      go_ret
      exact ⟨ret_bool (by rw [Hf.out]; rfl), belN hb1 hb2⟩

/-- An entry is right by itself. -/
noncomputable def entOkB (e : EntD) : Bool := nameOkB e.s && ((hashI e.s == e.h) && (inI e.i 0 12 && inI e.d 1 100000))
/-- A directory is right. -/
def DirP (ds : List EntD) : Prop := ds.length ≤ 12 ∧ ∀ i (h : i < ds.length), entOkB ds[i] = true ∧ (∀ (h1 : 0 < i), behB ds[i] (ds[i - 1]'(by omega)).h (ds[i - 1]'(by omega)).i = true) ∧ ∀ k (hk : k < i), keyB (ds[k]'(by omega)).s ≠ keyB ds[i].s
noncomputable def dirOkB (ds : List EntD) : Bool := @decide (DirP ds) (Classical.propDecidable _)
theorem dirOkB_iff {ds : List EntD} : dirOkB ds = true ↔ DirP ds := @decide_eq_true_iff _ (Classical.propDecidable _)
theorem dirOkB_true {ds : List EntD} (h : DirP ds) : dirOkB ds = true := dirOkB_iff.2 h
theorem dirOkB_false {ds : List EntD} (h : ¬ DirP ds) : dirOkB ds = false := by
  cases hb : dirOkB ds
  · rfl
  · exact absurd (dirOkB_iff.1 hb) h

/-- An entry stands right in its directory. -/
def GoodAt (ds : List EntD) (i : Nat) : Prop := ∃ h : i < ds.length, entOkB ds[i] = true ∧ (∀ (h1 : 0 < i), behB ds[i] (ds[i - 1]'(by omega)).h (ds[i - 1]'(by omega)).i = true) ∧ ∀ k (hk : k < i), keyB (ds[k]'(by omega)).s ≠ keyB ds[i].s
theorem dirP_iff {ds : List EntD} : DirP ds ↔ ds.length ≤ 12 ∧ ∀ i, i < ds.length → GoodAt ds i :=
  ⟨fun h => ⟨h.1, fun i hi => ⟨hi, h.2 i hi⟩⟩, fun h => ⟨h.1, fun i hi => by obtain ⟨_, h2⟩ := h.2 i hi; exact h2⟩⟩
theorem not_good {ds : List EntD} {i : Nat} (hi : i < ds.length) (h : ¬ GoodAt ds i) : dirOkB ds = false := dirOkB_false fun hp => h ((dirP_iff.1 hp).2 i hi)
theorem entOk_parts {e : EntD} (h : entOkB e = true) : nameOkB e.s = true ∧ (hashI e.s == e.h) = true ∧ inI e.i 0 12 = true ∧ inI e.d 1 100000 = true := by
  unfold entOkB at h
  simpa [Bool.and_eq_true] using h
theorem crc_q (s : ByteArray) (hs : s.size ≤ 1000000000) (w : World) : Calls Tryz.prog 76 #[.string s] w fun e w' => e = .returned (.int .i64 (crcB s)) ∧ w' = w :=
  (crc_impl s hs w).mono fun _ _ ⟨he, hw⟩ => ⟨he, hw.symm⟩
theorem containsS_q (A : Option Addr) (n c : Nat) (xs : List ByteArray) (q : ByteArray) (hn : n ≤ 10000000) (w : World) (hr : Reads w w.heap.size 1 A n (SS xs)) :
    Calls Tryz.prog 77 #[.slice A n c, .string q] w fun e w' => e = .returned (.bool (memB xs q)) ∧ w' = w :=
  (containsS_any A n c xs q hn w hr).mono fun _ _ ⟨he, hw⟩ => ⟨he, hw.symm⟩
theorem within_q (a b c : Int) (w : World) : Calls Tryz.prog 74 #[.int .i64 a, .int .i64 b, .int .i64 c] w fun e w' => e = .returned (.bool (inI a b c)) ∧ w' = w :=
  (within_any a b c w).mono fun _ _ ⟨he, hw⟩ => ⟨he, hw.symm⟩
theorem isId_q (x : Int) (w : World) : Calls Tryz.prog 51 #[.int .i64 x] w fun e w' => e = .returned (.bool (inI x 1 100000)) ∧ w' = w :=
  (isId_any x w).mono fun _ _ ⟨he, hw⟩ => ⟨he, hw.symm⟩
/-- The keys of the first so many. -/
noncomputable def keysL (ds : List EntD) (k : Nat) : List ByteArray := (ds.take k).map fun e => keyB e.s
theorem keysL_len (ds : List EntD) (k : Nat) (h : k ≤ ds.length) : (keysL ds k).length = k := by unfold keysL; rw [List.length_map, List.length_take]; omega
theorem keysL_succ (ds : List EntD) (k : Nat) (h : k < ds.length) : keysL ds (k + 1) = keysL ds k ++ [keyB ds[k].s] := by
  unfold keysL; rw [List.take_succ_eq_append_getElem h, List.map_append]; rfl
theorem keys_mem {ds : List EntD} {k : Nat} (h : k < ds.length) {q : ByteArray} : q ∈ keysL ds k ↔ ∃ j, ∃ hj : j < k, keyB (ds[j]'(by omega)).s = q := by
  unfold keysL
  rw [List.mem_map]
  constructor
  · rintro ⟨e, he, rfl⟩
    obtain ⟨j, hj, rfl⟩ := List.getElem_of_mem he
    rw [List.length_take] at hj
    exact ⟨j, by omega, by rw [List.getElem_take]⟩
  · rintro ⟨j, hj, rfl⟩
    exact ⟨ds[j]'(by omega), List.mem_iff_getElem.2 ⟨j, by rw [List.length_take]; omega, by rw [List.getElem_take]⟩, rfl⟩
theorem own_dN {w : World} {base : Nat} {e : TypeId} {size n : Nat} {v : Value} {xs : List Value} (h : w.ownsRow base e size v n xs) (k : Nat) : (w.drewN k).ownsRow base e size v n xs := h
theorem own_d {w : World} {base : Nat} {e : TypeId} {size n : Nat} {v : Value} {xs : List Value} (h : w.ownsRow base e size v n xs) : w.drew.ownsRow base e size v n xs := h

set_option maxRecDepth 100000 in
set_option maxHeartbeats 8000000 in
theorem dirOk_impl (A : Option Addr) (n c : Nat) (ds : List EntD) (hz : ∀ e ∈ ds, e.s.size ≤ 2000000) (w : World) (hT : Tab w) (hn : n ≤ 9223372036854775807) (hr : Reads w w.heap.size 4 A n (ES ds)) :
    Calls Tryz.prog 47 #[.slice A n c] w fun e w' => e = .returned (.bool (dirOkB ds)) ∧ Below w.heap.size w w' := by
  have hl : ds.length = n := by have := hr.1; rw [ES_length] at this; omega
  have Hr := Lib.hid hr
  have HT := Lib.hid hT
  have Hz := Lib.hid hz
  have HL := Lib.hid hl
  clear hr hT hz hl
  by_cases h12 : 12 < n
  · have Hf := Lib.hid (dirOkB_false (ds := ds) fun hp => by have := hp.1; have := HL.out; omega)
    go_enter Tryz.func47, Tryz.ntmps47
    go_wp2
    go_ret
    exact ⟨ret_bool Hf.out.symm, bel0 w⟩
  go_enter Tryz.func47, Tryz.ntmps47
  go_wp2
  go_loopw [3, 14] (fun v i wr => ∃ (k : Nat) (I : Int), k ≤ n ∧ i = .int .i64 I ∧ Hid (I = k) ∧ wr.ownsRow w.heap.size 9 1 v k (SS (keysL ds k)) ∧ Hid (∀ j, j < k → GoodAt ds j) ∧ Below w.heap.size w wr)
    (fun _ i _ => n - (intOf i).toNat)
  case atStart => exact ⟨0, 0, by omega, rfl, rfl, World.ownsRow_lit w #[] 0 (Nat.le_refl _) (by unfold maxLen; omega) rfl, fun j hj => absurd hj (by omega), belA (bel0 w) _⟩
  case round =>
    obtain ⟨k, I, hk, rfl, HI, hown, hgood, hbel⟩ := hrel
    have hsz := hbel.size
    have hI := HI.out
    have hi0 : 0 ≤ I := by omega
    have hi2 : I ≤ 12 := by omega
    by_cases hlt : k < n
    · have hi1 : I < (n : Int) := by omega
      have ht1 : I.toNat = k := by omega
      obtain ⟨hkx, b, o, rfl, hadb, z0, z1, z2, z3⟩ := reads_ent (Hr.out.below hbel) hlt
      have hszk := Hz.out _ (List.getElem_mem hkx)
      have Hks := Lib.hid (keysL_succ ds k hkx)
      have Hkl := Lib.hid (keysL_len ds k (by omega))
      have HDx : ∃ e, ds[k] = e := ⟨_, rfl⟩
      obtain ⟨e, he⟩ := HDx
      have He := Lib.hid he
      rw [he] at z0 z1 z2 z3 hszk Hks
      have bad : entOkB e = false → dirOkB ds = false := fun h => not_good hkx fun hg => by obtain ⟨_, h2, _⟩ := hg; rw [He.out, h] at h2; cases h2
      have dup : memB (keysL ds k) (keyB e.s) = true → dirOkB ds = false := fun h => not_good hkx fun hg => by
        obtain ⟨_, _, _, h2⟩ := hg
        obtain ⟨j, hj, he2⟩ := (keys_mem hkx).1 (memB_iff.1 h)
        exact h2 j hj (by rw [He.out]; exact he2)
      have Bad := Lib.hid bad
      have Dup := Lib.hid dup
      obtain ⟨KV, ok, hkv⟩ : ∃ KV ok, keyP e.s = (KV, ok) := ⟨_, _, rfl⟩
      have Hkv := Lib.hid hkv
      have hKz := keyP_size e.s
      have Hno := Lib.hid (keyP_2 e.s)
      rw [hkv] at hKz
      simp only at hKz
      obtain ⟨eh, ei, es, ed⟩ := e
      simp only at z0 z1 z2 z3 hszk
      have hne : b ≠ wr.heap.size := by omega
      clear hI bad dup he hkv
      go_wp2_with fail
      refine (keyOf_impl es hszk _ ((HT.out.below hbel HT.out.pos).al _)).mono ?_
      rintro e w1 ⟨rfl, hb1⟩
      rw [show keyP es = (KV, ok) from Hkv.out]
      simp only
      have hB := (Blk.new' wr 40 #[.int .i64 eh, .int .i64 ei, .string es, .int .i64 ed] wr.heap.size).below hb1 (by simp)
      have b1 := belN (belA hbel _) hb1
      have own1 := own_below (hown.alloc (.cells #[.int .i64 eh, .int .i64 ei, .string es, .int .i64 ed] 40)) hb1 (Nat.le_refl _)
      obtain ⟨A3, c3, rfl, _, _, hr3⟩ := own_vals own1
      have hblt := hB.lt
      have y0 := hB.get (x := .int .i64 eh) 0 rfl
      have y1 := hB.get (x := .int .i64 ei) 1 rfl
      have y2 := hB.get (x := .string es) 2 rfl
      have y3 := hB.get (x := .int .i64 ed) 3 rfl
      have Hr3 := Lib.hid hr3
      have Own1 := Lib.hid own1
      have hk12 : k ≤ 12 := by omega
      clear hown own1 hr3 z0 z1 z2 z3
      cases ok
      · have Hf := Lib.hid (Bad.out (by unfold entOkB; rw [← Hno.out, Hkv.out]; rfl))
        go_wp2_with fail
        go_quiet ((first
        | (go_at_call 76; exact Calls.quiet_of_same (crc_q _ (by omega) _))
        | (go_at_call 77; exact Calls.quiet_of_same (containsS_q _ _ _ _ _ (by omega) _ (Hr3.out.drewN _)))
        | (go_at_call 74; exact Calls.quiet_of_same (within_q _ _ _ _))
        | (go_at_call 51; exact Calls.quiet_of_same (isId_q _ _))))
        go_wp2
        go_ret
        exact ⟨ret_bool Hf.out.symm, below_drewN b1 _⟩
      have hnm := Lib.hid (show nameOkB es = true by have := Hno.out; rw [Hkv.out] at this; exact this.symm)
      have hKB := Lib.hid (show KV = keyB es by have := keyP_ok hnm.out; rw [Hkv.out] at this; injection this)
      have hcb := crcB_bd KV
      obtain ⟨hcb0, hcb1⟩ := hcb
      have hcr := Lib.hid (show hashI es = crcB KV % 16 by rw [hashI_ok hnm.out, hKB.out])
      rcases hh : (crcB KV % 16 != eh) with _ | _
      rotate_left
      · have Hf := Lib.hid (Bad.out (by unfold entOkB; rw [hcr.out, show (crcB KV % 16 == eh) = false by simpa [bne] using hh]; simp))
        go_wp2_with fail
        go_quiet ((first
        | (go_at_call 76; exact Calls.quiet_of_same (crc_q _ (by omega) _))
        | (go_at_call 77; exact Calls.quiet_of_same (containsS_q _ _ _ _ _ (by omega) _ (Hr3.out.drewN _)))
        | (go_at_call 74; exact Calls.quiet_of_same (within_q _ _ _ _))
        | (go_at_call 51; exact Calls.quiet_of_same (isId_q _ _))))
        go_wp2
        go_ret
        exact ⟨ret_bool Hf.out.symm, below_drewN b1 _⟩
      rcases hm : memB (keysL ds k) KV with _ | _
      rotate_left
      · have Hf := Lib.hid (Dup.out (by rw [← hKB.out]; exact hm))
        go_wp2_with fail
        go_quiet ((first
        | (go_at_call 76; exact Calls.quiet_of_same (crc_q _ (by omega) _))
        | (go_at_call 77; exact Calls.quiet_of_same (containsS_q _ _ _ _ _ (by omega) _ (Hr3.out.drewN _)))
        | (go_at_call 74; exact Calls.quiet_of_same (within_q _ _ _ _))
        | (go_at_call 51; exact Calls.quiet_of_same (isId_q _ _))))
        go_wp2
        go_ret
        exact ⟨ret_bool Hf.out.symm, below_drewN b1 _⟩
      rcases hx : inI ei 0 12 with _ | _
      · have Hf := Lib.hid (Bad.out (by unfold entOkB; rw [hx]; simp))
        go_wp2_with fail
        go_quiet ((first
        | (go_at_call 76; exact Calls.quiet_of_same (crc_q _ (by omega) _))
        | (go_at_call 77; exact Calls.quiet_of_same (containsS_q _ _ _ _ _ (by omega) _ (Hr3.out.drewN _)))
        | (go_at_call 74; exact Calls.quiet_of_same (within_q _ _ _ _))
        | (go_at_call 51; exact Calls.quiet_of_same (isId_q _ _))))
        go_wp2
        go_ret
        exact ⟨ret_bool Hf.out.symm, below_drewN b1 _⟩
      rcases hd : inI ed 1 100000 with _ | _
      · have Hf := Lib.hid (Bad.out (by unfold entOkB; rw [hd]; simp))
        go_wp2_with fail
        go_quiet ((first
        | (go_at_call 76; exact Calls.quiet_of_same (crc_q _ (by omega) _))
        | (go_at_call 77; exact Calls.quiet_of_same (containsS_q _ _ _ _ _ (by omega) _ (Hr3.out.drewN _)))
        | (go_at_call 74; exact Calls.quiet_of_same (within_q _ _ _ _))
        | (go_at_call 51; exact Calls.quiet_of_same (isId_q _ _))))
        go_wp2
        go_ret
        exact ⟨ret_bool Hf.out.symm, below_drewN b1 _⟩
      have Hok := Lib.hid (show entOkB ⟨eh, ei, es, ed⟩ = true by
        unfold entOkB; rw [hnm.out, hcr.out, hx, hd, show (crcB KV % 16 == eh) = true by simpa [bne] using hh]; rfl)
      have Hmem := Lib.hid hm
      go_wp2_with fail
      go_quiet ((first
        | (go_at_call 76; exact Calls.quiet_of_same (crc_q _ (by omega) _))
        | (go_at_call 77; exact Calls.quiet_of_same (containsS_q _ _ _ _ _ (by omega) _ (Hr3.out.drewN _)))
        | (go_at_call 74; exact Calls.quiet_of_same (within_q _ _ _ _))
        | (go_at_call 51; exact Calls.quiet_of_same (isId_q _ _))))
      rename Nat => nq1
      clear hh hm hx hd
      rcases Nat.eq_zero_or_pos k with hk0 | hk0
      · have hI0 : decide (0 < I) = false := by have := HI.out; simp; omega
        have Hgd := Lib.hid (show GoodAt ds k from ⟨hkx, by rw [He.out]; exact Hok.out, fun h => absurd h (by omega), fun j hj => absurd hj (by omega)⟩)
        have hbase := b1.size
        go_wp2_with fail
        go_quiet (fail)
        have own3 := own_dN Own1.out (nq1 + nq)
        have b3 := below_drewN b1 (nq1 + nq)
        go_wp2_with (at_builtin; go_must (refine wpList_app _ rfl _ _ _ rfl Tryz.el_str (own3.alloc _) rfl (reads_new _ _ _ _ 1 (by rfl)) rfl (by simp [Value.oneCell']) (max_small (by omega)) (by omega) (by simp; omega) ?_); intro v5 w5 own5 hg5 _ hb5)
        go_roundw
        case rel =>
          refine ⟨k + 1, I + 1, by omega, by go_num, by have := HI.out; show _ = _; omega, ?_, fun j hj => ?_, (belA b3 _).trans hb5⟩
          · rw [Hks.out, ← hKB.out, SS_append]; exact own5
          · rcases Nat.lt_or_ge j k with h | h
            · exact hgood.out j h
            · rw [show j = k by omega]; exact Hgd.out
        case measure => simp [intOf]; omega
      · obtain ⟨p, hp⟩ : ∃ p, k = p + 1 := ⟨k - 1, by omega⟩
        have Hp := Lib.hid hp
        have hbelw := (belA hbel (.cells #[.int .i64 eh, .int .i64 ei, .string es, .int .i64 ed] 40)).trans (hb1.mono (by simp; omega))
        obtain ⟨hpx, b', o', he', _, x0, x1, _, _⟩ := reads_ent (Hr.out.below hbelw) (k := p) (by omega)
        injection he' with he'
        injection he' with e1 e2
        subst e1
        subst e2
        have w1' : IntKind.i64.wrap (I - 1) = (p : Int) := by rw [IntWalk.i64_in _ (by omega)]; have := HI.out; omega
        have w2' : I - 1 = (p : Int) := by have := HI.out; omega
        have w3' : IntKind.i64.wrap (p : Int) = (p : Int) := IntWalk.i64_in _ (by omega)
        have p0 : (0 : Int) ≤ ↑p := by omega
        have p1 : (p : Int) < ↑n := by omega
        have hI2 : 0 < I := by have := HI.out; omega
        have hne2 : b ≠ wr.heap.size := by omega
        clear hp
        rcases hbh : behB ⟨eh, ei, es, ed⟩ ds[p].h ds[p].i with _ | _
        · have Hf := Lib.hid (not_good hkx fun hg => by
            obtain ⟨_, _, h3, _⟩ := hg
            have h4 := h3 hk0
            have hpp : k - 1 = p := by have := Hp.out; omega
            simp only [hpp, He.out] at h4
            rw [hbh] at h4; cases h4)
          go_wp2_with fail
          go_region_held3 (fun w' => w'.cell? ⟨wr.heap.size, 0, none⟩ = some (.int .i64 eh) ∧ w'.cell? ⟨wr.heap.size, 1, none⟩ = some (.int .i64 ei) ∧ w'.cell? ⟨wr.heap.size, 2, none⟩ = some (.string es) ∧ w'.cell? ⟨wr.heap.size, 3, none⟩ = some (.int .i64 ed) ∧ w'.cell? ⟨b, o + p * 4, none⟩ = some (.int .i64 ds[p].h) ∧ w'.cell? ⟨b, o + p * 4 + 1, none⟩ = some (.int .i64 ds[p].i))
            (first | go_keep | (refine ⟨keep1 hb9 ?_, keep1 hb9 ?_, keep1 hb9 ?_, keep1 hb9 ?_, keep1 hb9 ?_, keep1 hb9 ?_⟩ <;> go_keep))
            (first
              | (go_at_call 55; refine (isBehind_any ⟨eh, ei, es, ed⟩ _ _ _).mono ?_; rintro e w9 ⟨rfl, hb9⟩))
          go_wp2
          go_ret
          exact ⟨ret_bool Hf.out.symm, belN (below_drewN b1 _).drew hb9⟩
        · have Hgd := Lib.hid (show GoodAt ds k from by
            refine ⟨hkx, by rw [He.out]; exact Hok.out, fun h1 => ?_, fun j hj he2 => ?_⟩
            · have hpp : k - 1 = p := by have := Hp.out; omega
              simp only [hpp, He.out]; exact hbh
            · rw [He.out] at he2
              exact memB_no Hmem.out ((keys_mem hkx).2 ⟨j, hj, by rw [hKB.out]; exact he2⟩))
          go_wp2_with fail
          go_region_held3 (fun w' => w'.cell? ⟨wr.heap.size, 0, none⟩ = some (.int .i64 eh) ∧ w'.cell? ⟨wr.heap.size, 1, none⟩ = some (.int .i64 ei) ∧ w'.cell? ⟨wr.heap.size, 2, none⟩ = some (.string es) ∧ w'.cell? ⟨wr.heap.size, 3, none⟩ = some (.int .i64 ed) ∧ w'.cell? ⟨b, o + p * 4, none⟩ = some (.int .i64 ds[p].h) ∧ w'.cell? ⟨b, o + p * 4 + 1, none⟩ = some (.int .i64 ds[p].i))
            (first | go_keep | (refine ⟨keep1 hb9 ?_, keep1 hb9 ?_, keep1 hb9 ?_, keep1 hb9 ?_, keep1 hb9 ?_, keep1 hb9 ?_⟩ <;> go_keep))
            (first
              | (go_at_call 55; refine (isBehind_any ⟨eh, ei, es, ed⟩ _ _ _).mono ?_; rintro e w9 ⟨rfl, hb9⟩))
          have own9 := own_below (own_d (own_dN Own1.out nq1)) hb9 (Nat.le_refl _)
          have hbase : w.heap.size ≤ w9.heap.size := Nat.le_trans b1.size hb9.size
          clear x0 x1 y0 y1 y2 y3
          go_wp2_with (at_builtin; go_must (refine wpList_app _ rfl _ _ _ rfl Tryz.el_str (own9.alloc _) rfl (reads_new _ _ _ _ 1 (by rfl)) rfl (by simp [Value.oneCell']) (max_small (by omega)) (by omega) (by simp; omega) ?_); intro v5 w5 own5 hg5 _ hb5)
          go_roundw
          case rel =>
            refine ⟨k + 1, I + 1, by omega, by go_num, by have := HI.out; show _ = _; omega, ?_, fun j hj => ?_, (belA (belN (below_drewN b1 _).drew hb9) _).trans hb5⟩
            · rw [Hks.out, ← hKB.out, SS_append]; exact own5
            · rcases Nat.lt_or_ge j k with h | h
              · exact hgood.out j h
              · rw [show j = k by omega]; exact Hgd.out
          case measure => simp [intOf]; omega
    · obtain rfl : k = n := by omega
      have Hf := Lib.hid (dirOkB_true (dirP_iff.2 ⟨by have := HL.out; omega, fun i hi => hgood.out i (by have := HL.out; omega)⟩))
      clear hI
      have hi1 : ¬ I < (k : Int) := by have := HI.out; omega
      go_wp2
      go_ret
      exact ⟨ret_bool Hf.out.symm, hbel⟩

set_option maxRecDepth 100000 in
set_option maxHeartbeats 8000000 in
theorem dirOk_spec (A : Option Addr) (n c : Nat) (ds : List EntD) (hz : ∀ e ∈ ds, e.s.size ≤ 2000000) (w : World) (hn : n ≤ 9223372036854775807) (hr : Reads w w.heap.size 4 A n (ES ds)) :
    Calls Tryz.prog 31 #[.slice A n c] w fun e w' => e = .returned (.bool (dirOkB ds)) ∧ Below w.heap.size w w' := by
  have hl : ds.length = n := by have := hr.1; rw [ES_length] at this; omega
  have Hr := Lib.hid hr
  have Hz := Lib.hid hz
  have HL := Lib.hid hl
  clear hr hz hl
  by_cases h12 : 12 < n
  · have Hf := Lib.hid (dirOkB_false (ds := ds) fun hp => by have := hp.1; have := HL.out; omega)
    go_enter Tryz.func31, Tryz.ntmps31
    go_wp2
    go_ret
    exact ⟨ret_bool Hf.out.symm, bel0 w⟩
  go_enter Tryz.func31, Tryz.ntmps31
  go_wp2
  go_loopw [3] (fun i wr => ∃ (k : Nat) (I : Int), k ≤ n ∧ i = .int .i64 I ∧ Hid (I = k) ∧ Hid (∀ j, j < k → GoodAt ds j) ∧ Below w.heap.size w wr)
    (fun i _ => n - (intOf i).toNat)
  case atStart => exact ⟨0, 0, by omega, rfl, rfl, fun j hj => absurd hj (by omega), bel0 w⟩
  case round =>
    obtain ⟨k, I, hk, rfl, HI, hgood, hbel⟩ := hrel
    have hsz := hbel.size
    have hI := HI.out
    have hi0 : 0 ≤ I := by omega
    have hi2 : I ≤ 12 := by omega
    by_cases hlt : k < n
    · have hi1 : I < (n : Int) := by omega
      have ht1 : I.toNat = k := by omega
      obtain ⟨hkx, b, o, rfl, hadb, z0, z1, z2, z3⟩ := reads_ent (Hr.out.below hbel) hlt
      have hszk := Hz.out _ (List.getElem_mem hkx)
      have HDx : ∃ e, ds[k] = e := ⟨_, rfl⟩
      obtain ⟨e, he⟩ := HDx
      have He := Lib.hid he
      rw [he] at z0 z1 z2 z3 hszk
      have bad : entOkB e = false → dirOkB ds = false := fun h => not_good hkx fun hg => by obtain ⟨_, h2, _⟩ := hg; rw [He.out, h] at h2; cases h2
      have Bad := Lib.hid bad
      obtain ⟨eh, ei, es, ed⟩ := e
      simp only at z0 z1 z2 z3 hszk
      have hne : b ≠ wr.heap.size := by omega
      clear hI bad he
      have hB := Blk.new' wr 40 #[.int .i64 eh, .int .i64 ei, .string es, .int .i64 ed] wr.heap.size
      have b1 := belA hbel (.cells #[.int .i64 eh, .int .i64 ei, .string es, .int .i64 ed] 40)
      have y0 := hB.get (x := .int .i64 eh) 0 rfl
      have y1 := hB.get (x := .int .i64 ei) 1 rfl
      have y2 := hB.get (x := .string es) 2 rfl
      have y3 := hB.get (x := .int .i64 ed) 3 rfl
      have hk12 : k ≤ 12 := by omega
      rcases hnm : nameOkB es with _ | _
      · have Hf := Lib.hid (Bad.out (by unfold entOkB; rw [hnm]; rfl))
        go_wp2_with fail
        refine wp_region_held_drew (S := fun w' => w'.cell? ⟨wr.heap.size, 0, none⟩ = some (.int .i64 eh) ∧ w'.cell? ⟨wr.heap.size, 1, none⟩ = some (.int .i64 ei) ∧ w'.cell? ⟨wr.heap.size, 2, none⟩ = some (.string es) ∧ w'.cell? ⟨wr.heap.size, 3, none⟩ = some (.int .i64 ed)) (by kernel_rfl) ⟨y0, y1, y2, y3⟩ (fun hHeld => ?_)
        refine wpAnyH_take (i := 0) (oi := ?oi1) (v := ?v1) ?hi1 ?hs1 ?hf1 ?hr1 ?hQ1 ?hy1 ?hS1 ?hrest1
        case hi1 => (conv => lhs; simp only [List.getElem?_toArray, List.getElem?_cons_zero]); try exact rfl
        case hs1 => kernel_rfl
        case hf1 => kernel_rfl
        case hr1 => kernel_rfl
        case hQ1 => exact fun _ _ _ h => h
        case hS1 => assumption
        case hy1 => refine Or.inl ⟨by rfl, ?_⟩; intro w hSw; (try dsimp only at hSw); go_simp; (try with_reducible rfl)
        simp only [Act.put, List.setIfInBounds_toArray, List.set_cons_zero, List.set_cons_succ]
        refine wpAnyH_take (i := 1) (oi := ?oi2) (v := ?v2) ?hi2 ?hs2 ?hf2 ?hr2 ?hQ2 ?hy2 ?hS2 ?hrest2
        case hi2 => (conv => lhs; simp only [List.getElem?_toArray, List.getElem?_cons_zero, List.getElem?_cons_succ]); try exact rfl
        case hs2 => kernel_rfl
        case hf2 => kernel_rfl
        case hr2 => kernel_rfl
        case hQ2 => exact fun _ _ _ h => h
        case hS2 => assumption
        case hy2 => refine Or.inl ⟨by rfl, ?_⟩; intro w hSw; (try dsimp only at hSw); go_simp; (try with_reducible rfl)
        simp only [Act.put, List.setIfInBounds_toArray, List.set_cons_zero, List.set_cons_succ]
        refine wpAnyH_ready (rs := [2]) (by kernel_rfl) (by simp) ?_
        refine AllReadyH.cons (o := ?oi3) ?hi3 (fun K hK => ?_) AllReadyH.nil
        case hi3 => (conv => lhs; simp only [List.getElem?_toArray, List.getElem?_cons_zero, List.getElem?_cons_succ]); try exact rfl
        go_simp
        go_at_call 61
        refine (nameOk_spec es hszk _).mono ?_
        rintro e w7 ⟨rfl, hb7⟩
        refine hK.out _ _ (by obtain ⟨a0, a1, a2, a3⟩ := hHeld; exact ⟨keep1 hb7 a0 (Nat.le_refl _), keep1 hb7 a1 (Nat.le_refl _), keep1 hb7 a2 (Nat.le_refl _), keep1 hb7 a3 (Nat.le_refl _)⟩) (fun hHeld3 => ?_)
        clear hK K
        clear hHeld
        refine wpAnyH_take (i := 3) (oi := ?oi4) (v := ?v4) ?hi4 ?hs4 ?hf4 ?hr4 ?hQ4 ?hy4 ?hS4 ?hrest4
        case hi4 => (conv => lhs; simp only [List.getElem?_toArray, List.getElem?_cons_zero, List.getElem?_cons_succ]); try exact rfl
        case hs4 => kernel_rfl
        case hf4 => kernel_rfl
        case hr4 => kernel_rfl
        case hQ4 => exact fun _ _ _ h => h
        case hS4 => assumption
        case hy4 => refine Or.inl ⟨by rfl, ?_⟩; intro w hSw; (try dsimp only at hSw); go_simp; (try with_reducible rfl)
        simp only [Act.put, List.setIfInBounds_toArray, List.set_cons_zero, List.set_cons_succ]
        refine wpAnyH_take (i := 4) (oi := ?oi5) (v := ?v5) ?hi5 ?hs5 ?hf5 ?hr5 ?hQ5 ?hy5 ?hS5 ?hrest5
        case hi5 => (conv => lhs; simp only [List.getElem?_toArray, List.getElem?_cons_zero, List.getElem?_cons_succ]); try exact rfl
        case hs5 => kernel_rfl
        case hf5 => kernel_rfl
        case hr5 => kernel_rfl
        case hQ5 => exact fun _ _ _ h => h
        case hS5 => assumption
        case hy5 => refine Or.inl ⟨by rfl, ?_⟩; intro w hSw; (try dsimp only at hSw); go_simp; (try with_reducible rfl)
        simp only [Act.put, List.setIfInBounds_toArray, List.set_cons_zero, List.set_cons_succ]
        refine wpAnyH_take (i := 5) (oi := ?oi6) (v := undef) ?hi6 ?hs6 ?hf6 ?hr6 ?hQ6 ?hy6 ?hS6 ?hrest6
        case hi6 => (conv => lhs; simp only [List.getElem?_toArray, List.getElem?_cons_zero, List.getElem?_cons_succ]); try exact rfl
        case hs6 => kernel_rfl
        case hf6 => kernel_rfl
        case hr6 => kernel_rfl
        case hQ6 => exact fun _ _ _ h => h
        case hS6 => assumption
        case hy6 => exact Or.inr ⟨by rfl, rfl⟩
        simp only [Act.put, List.setIfInBounds_toArray, List.set_cons_zero, List.set_cons_succ]
        refine wpAnyH_take (i := 6) (oi := ?oi7) (v := undef) ?hi7 ?hs7 ?hf7 ?hr7 ?hQ7 ?hy7 ?hS7 ?hrest7
        case hi7 => (conv => lhs; simp only [List.getElem?_toArray, List.getElem?_cons_zero, List.getElem?_cons_succ]); try exact rfl
        case hs7 => kernel_rfl
        case hf7 => kernel_rfl
        case hr7 => kernel_rfl
        case hQ7 => exact fun _ _ _ h => h
        case hS7 => assumption
        case hy7 => exact Or.inr ⟨by rfl, rfl⟩
        simp only [Act.put, List.setIfInBounds_toArray, List.set_cons_zero, List.set_cons_succ]
        refine wpAnyH_take (i := 7) (oi := ?oi8) (v := undef) ?hi8 ?hs8 ?hf8 ?hr8 ?hQ8 ?hy8 ?hS8 ?hrest8
        case hi8 => (conv => lhs; simp only [List.getElem?_toArray, List.getElem?_cons_zero, List.getElem?_cons_succ]); try exact rfl
        case hs8 => kernel_rfl
        case hf8 => kernel_rfl
        case hr8 => kernel_rfl
        case hQ8 => exact fun _ _ _ h => h
        case hS8 => assumption
        case hy8 => exact Or.inr ⟨by rfl, rfl⟩
        simp only [Act.put, List.setIfInBounds_toArray, List.set_cons_zero, List.set_cons_succ]
        refine wpAnyH_take (i := 8) (oi := ?oi9) (v := undef) ?hi9 ?hs9 ?hf9 ?hr9 ?hQ9 ?hy9 ?hS9 ?hrest9
        case hi9 => (conv => lhs; simp only [List.getElem?_toArray, List.getElem?_cons_zero, List.getElem?_cons_succ]); try exact rfl
        case hs9 => kernel_rfl
        case hf9 => kernel_rfl
        case hr9 => kernel_rfl
        case hQ9 => exact fun _ _ _ h => h
        case hS9 => assumption
        case hy9 => exact Or.inr ⟨by rfl, rfl⟩
        simp only [Act.put, List.setIfInBounds_toArray, List.set_cons_zero, List.set_cons_succ]
        refine wpAnyH_take (i := 9) (oi := ?oi10) (v := undef) ?hi10 ?hs10 ?hf10 ?hr10 ?hQ10 ?hy10 ?hS10 ?hrest10
        case hi10 => (conv => lhs; simp only [List.getElem?_toArray, List.getElem?_cons_zero, List.getElem?_cons_succ]); try exact rfl
        case hs10 => kernel_rfl
        case hf10 => kernel_rfl
        case hr10 => kernel_rfl
        case hQ10 => exact fun _ _ _ h => h
        case hS10 => assumption
        case hy10 => exact Or.inr ⟨by rfl, rfl⟩
        simp only [Act.put, List.setIfInBounds_toArray, List.set_cons_zero, List.set_cons_succ]
        refine wpAnyH_take (i := 10) (oi := ?oi11) (v := undef) ?hi11 ?hs11 ?hf11 ?hr11 ?hQ11 ?hy11 ?hS11 ?hrest11
        case hi11 => (conv => lhs; simp only [List.getElem?_toArray, List.getElem?_cons_zero, List.getElem?_cons_succ]); try exact rfl
        case hs11 => kernel_rfl
        case hf11 => kernel_rfl
        case hr11 => kernel_rfl
        case hQ11 => exact fun _ _ _ h => h
        case hS11 => assumption
        case hy11 => exact Or.inr ⟨by rfl, rfl⟩
        simp only [Act.put, List.setIfInBounds_toArray, List.set_cons_zero, List.set_cons_succ]
        refine wpAnyH_take (i := 11) (oi := ?oi12) (v := ?v12) ?hi12 ?hs12 ?hf12 ?hr12 ?hQ12 ?hy12 ?hS12 ?hrest12
        case hi12 => (conv => lhs; simp only [List.getElem?_toArray, List.getElem?_cons_zero, List.getElem?_cons_succ]); try exact rfl
        case hs12 => kernel_rfl
        case hf12 => kernel_rfl
        case hr12 => kernel_rfl
        case hQ12 => exact fun _ _ _ h => h
        case hS12 => assumption
        case hy12 => refine Or.inl ⟨by rfl, ?_⟩; intro w hSw; (try dsimp only at hSw); go_simp; (try with_reducible rfl)
        simp only [Act.put, List.setIfInBounds_toArray, List.set_cons_zero, List.set_cons_succ]
        refine wpAnyH_take (i := 12) (oi := ?oi13) (v := ?v13) ?hi13 ?hs13 ?hf13 ?hr13 ?hQ13 ?hy13 ?hS13 ?hrest13
        case hi13 => (conv => lhs; simp only [List.getElem?_toArray, List.getElem?_cons_zero, List.getElem?_cons_succ]); try exact rfl
        case hs13 => kernel_rfl
        case hf13 => kernel_rfl
        case hr13 => kernel_rfl
        case hQ13 => exact fun _ _ _ h => h
        case hS13 => assumption
        case hy13 => refine Or.inl ⟨by rfl, ?_⟩; intro w hSw; (try dsimp only at hSw); go_simp; (try with_reducible rfl)
        simp only [Act.put, List.setIfInBounds_toArray, List.set_cons_zero, List.set_cons_succ]
        refine wpAnyH_take (i := 13) (oi := ?oi14) (v := undef) ?hi14 ?hs14 ?hf14 ?hr14 ?hQ14 ?hy14 ?hS14 ?hrest14
        case hi14 => (conv => lhs; simp only [List.getElem?_toArray, List.getElem?_cons_zero, List.getElem?_cons_succ]); try exact rfl
        case hs14 => kernel_rfl
        case hf14 => kernel_rfl
        case hr14 => kernel_rfl
        case hQ14 => exact fun _ _ _ h => h
        case hS14 => assumption
        case hy14 => exact Or.inr ⟨by rfl, rfl⟩
        simp only [Act.put, List.setIfInBounds_toArray, List.set_cons_zero, List.set_cons_succ]
        refine wpAnyH_take (i := 14) (oi := ?oi15) (v := undef) ?hi15 ?hs15 ?hf15 ?hr15 ?hQ15 ?hy15 ?hS15 ?hrest15
        case hi15 => (conv => lhs; simp only [List.getElem?_toArray, List.getElem?_cons_zero, List.getElem?_cons_succ]); try exact rfl
        case hs15 => kernel_rfl
        case hf15 => kernel_rfl
        case hr15 => kernel_rfl
        case hQ15 => exact fun _ _ _ h => h
        case hS15 => assumption
        case hy15 => exact Or.inr ⟨by rfl, rfl⟩
        simp only [Act.put, List.setIfInBounds_toArray, List.set_cons_zero, List.set_cons_succ]
        refine wpAnyH_take (i := 15) (oi := ?oi16) (v := undef) ?hi16 ?hs16 ?hf16 ?hr16 ?hQ16 ?hy16 ?hS16 ?hrest16
        case hi16 => (conv => lhs; simp only [List.getElem?_toArray, List.getElem?_cons_zero, List.getElem?_cons_succ]); try exact rfl
        case hs16 => kernel_rfl
        case hf16 => kernel_rfl
        case hr16 => kernel_rfl
        case hQ16 => exact fun _ _ _ h => h
        case hS16 => assumption
        case hy16 => exact Or.inr ⟨by rfl, rfl⟩
        simp only [Act.put, List.setIfInBounds_toArray, List.set_cons_zero, List.set_cons_succ]
        refine wpAnyH_take (i := 16) (oi := ?oi17) (v := undef) ?hi17 ?hs17 ?hf17 ?hr17 ?hQ17 ?hy17 ?hS17 ?hrest17
        case hi17 => (conv => lhs; simp only [List.getElem?_toArray, List.getElem?_cons_zero, List.getElem?_cons_succ]); try exact rfl
        case hs17 => kernel_rfl
        case hf17 => kernel_rfl
        case hr17 => kernel_rfl
        case hQ17 => exact fun _ _ _ h => h
        case hS17 => assumption
        case hy17 => exact Or.inr ⟨by rfl, rfl⟩
        simp only [Act.put, List.setIfInBounds_toArray, List.set_cons_zero, List.set_cons_succ]
        refine wpAnyH_take (i := 17) (oi := ?oi18) (v := ?v18) ?hi18 ?hs18 ?hf18 ?hr18 ?hQ18 ?hy18 ?hS18 ?hrest18
        case hi18 => (conv => lhs; simp only [List.getElem?_toArray, List.getElem?_cons_zero, List.getElem?_cons_succ]); try exact rfl
        case hs18 => kernel_rfl
        case hf18 => kernel_rfl
        case hr18 => kernel_rfl
        case hQ18 => exact fun _ _ _ h => h
        case hS18 => assumption
        case hy18 => refine Or.inl ⟨by rfl, ?_⟩; intro w hSw; (try dsimp only at hSw); go_simp; (try with_reducible rfl)
        simp only [Act.put, List.setIfInBounds_toArray, List.set_cons_zero, List.set_cons_succ]
        refine wpAnyH_take (i := 18) (oi := ?oi19) (v := ?v19) ?hi19 ?hs19 ?hf19 ?hr19 ?hQ19 ?hy19 ?hS19 ?hrest19
        case hi19 => (conv => lhs; simp only [List.getElem?_toArray, List.getElem?_cons_zero, List.getElem?_cons_succ]); try exact rfl
        case hs19 => kernel_rfl
        case hf19 => kernel_rfl
        case hr19 => kernel_rfl
        case hQ19 => exact fun _ _ _ h => h
        case hS19 => assumption
        case hy19 => refine Or.inl ⟨by rfl, ?_⟩; intro w hSw; (try dsimp only at hSw); go_simp; (try with_reducible rfl)
        simp only [Act.put, List.setIfInBounds_toArray, List.set_cons_zero, List.set_cons_succ]
        refine wpAnyH_take (i := 19) (oi := ?oi20) (v := undef) ?hi20 ?hs20 ?hf20 ?hr20 ?hQ20 ?hy20 ?hS20 ?hrest20
        case hi20 => (conv => lhs; simp only [List.getElem?_toArray, List.getElem?_cons_zero, List.getElem?_cons_succ]); try exact rfl
        case hs20 => kernel_rfl
        case hf20 => kernel_rfl
        case hr20 => kernel_rfl
        case hQ20 => exact fun _ _ _ h => h
        case hS20 => assumption
        case hy20 => exact Or.inr ⟨by rfl, rfl⟩
        simp only [Act.put, List.setIfInBounds_toArray, List.set_cons_zero, List.set_cons_succ]
        refine wpAnyH_take (i := 20) (oi := ?oi21) (v := undef) ?hi21 ?hs21 ?hf21 ?hr21 ?hQ21 ?hy21 ?hS21 ?hrest21
        case hi21 => (conv => lhs; simp only [List.getElem?_toArray, List.getElem?_cons_zero, List.getElem?_cons_succ]); try exact rfl
        case hs21 => kernel_rfl
        case hf21 => kernel_rfl
        case hr21 => kernel_rfl
        case hQ21 => exact fun _ _ _ h => h
        case hS21 => assumption
        case hy21 => exact Or.inr ⟨by rfl, rfl⟩
        simp only [Act.put, List.setIfInBounds_toArray, List.set_cons_zero, List.set_cons_succ]
        refine wpAnyH_take (i := 21) (oi := ?oi22) (v := undef) ?hi22 ?hs22 ?hf22 ?hr22 ?hQ22 ?hy22 ?hS22 ?hrest22
        case hi22 => (conv => lhs; simp only [List.getElem?_toArray, List.getElem?_cons_zero, List.getElem?_cons_succ]); try exact rfl
        case hs22 => kernel_rfl
        case hf22 => kernel_rfl
        case hr22 => kernel_rfl
        case hQ22 => exact fun _ _ _ h => h
        case hS22 => assumption
        case hy22 => exact Or.inr ⟨by rfl, rfl⟩
        simp only [Act.put, List.setIfInBounds_toArray, List.set_cons_zero, List.set_cons_succ]
        refine wpAnyH_take (i := 22) (oi := ?oi23) (v := undef) ?hi23 ?hs23 ?hf23 ?hr23 ?hQ23 ?hy23 ?hS23 ?hrest23
        case hi23 => (conv => lhs; simp only [List.getElem?_toArray, List.getElem?_cons_zero, List.getElem?_cons_succ]); try exact rfl
        case hs23 => kernel_rfl
        case hf23 => kernel_rfl
        case hr23 => kernel_rfl
        case hQ23 => exact fun _ _ _ h => h
        case hS23 => assumption
        case hy23 => exact Or.inr ⟨by rfl, rfl⟩
        simp only [Act.put, List.setIfInBounds_toArray, List.set_cons_zero, List.set_cons_succ]
        refine wpAnyH_take (i := 23) (oi := ?oi24) (v := ?v24) ?hi24 ?hs24 ?hf24 ?hr24 ?hQ24 ?hy24 ?hS24 ?hrest24
        case hi24 => (conv => lhs; simp only [List.getElem?_toArray, List.getElem?_cons_zero, List.getElem?_cons_succ]); try exact rfl
        case hs24 => kernel_rfl
        case hf24 => kernel_rfl
        case hr24 => kernel_rfl
        case hQ24 => exact fun _ _ _ h => h
        case hS24 => assumption
        case hy24 => refine Or.inl ⟨by rfl, ?_⟩; intro w hSw; (try dsimp only at hSw); go_simp; (try with_reducible rfl)
        simp only [Act.put, List.setIfInBounds_toArray, List.set_cons_zero, List.set_cons_succ]
        refine wpAnyH_take (i := 24) (oi := ?oi25) (v := ?v25) ?hi25 ?hs25 ?hf25 ?hr25 ?hQ25 ?hy25 ?hS25 ?hrest25
        case hi25 => (conv => lhs; simp only [List.getElem?_toArray, List.getElem?_cons_zero, List.getElem?_cons_succ]); try exact rfl
        case hs25 => kernel_rfl
        case hf25 => kernel_rfl
        case hr25 => kernel_rfl
        case hQ25 => exact fun _ _ _ h => h
        case hS25 => assumption
        case hy25 => refine Or.inl ⟨by rfl, ?_⟩; intro w hSw; (try dsimp only at hSw); go_simp; (try with_reducible rfl)
        simp only [Act.put, List.setIfInBounds_toArray, List.set_cons_zero, List.set_cons_succ]
        refine wpAnyH_take (i := 25) (oi := ?oi26) (v := undef) ?hi26 ?hs26 ?hf26 ?hr26 ?hQ26 ?hy26 ?hS26 ?hrest26
        case hi26 => (conv => lhs; simp only [List.getElem?_toArray, List.getElem?_cons_zero, List.getElem?_cons_succ]); try exact rfl
        case hs26 => kernel_rfl
        case hf26 => kernel_rfl
        case hr26 => kernel_rfl
        case hQ26 => exact fun _ _ _ h => h
        case hS26 => assumption
        case hy26 => exact Or.inr ⟨by rfl, rfl⟩
        simp only [Act.put, List.setIfInBounds_toArray, List.set_cons_zero, List.set_cons_succ]
        refine wpAnyH_take (i := 26) (oi := ?oi27) (v := undef) ?hi27 ?hs27 ?hf27 ?hr27 ?hQ27 ?hy27 ?hS27 ?hrest27
        case hi27 => (conv => lhs; simp only [List.getElem?_toArray, List.getElem?_cons_zero, List.getElem?_cons_succ]); try exact rfl
        case hs27 => kernel_rfl
        case hf27 => kernel_rfl
        case hr27 => kernel_rfl
        case hQ27 => exact fun _ _ _ h => h
        case hS27 => assumption
        case hy27 => exact Or.inr ⟨by rfl, rfl⟩
        simp only [Act.put, List.setIfInBounds_toArray, List.set_cons_zero, List.set_cons_succ]
        refine wpAnyH_take (i := 27) (oi := ?oi28) (v := undef) ?hi28 ?hs28 ?hf28 ?hr28 ?hQ28 ?hy28 ?hS28 ?hrest28
        case hi28 => (conv => lhs; simp only [List.getElem?_toArray, List.getElem?_cons_zero, List.getElem?_cons_succ]); try exact rfl
        case hs28 => kernel_rfl
        case hf28 => kernel_rfl
        case hr28 => kernel_rfl
        case hQ28 => exact fun _ _ _ h => h
        case hS28 => assumption
        case hy28 => exact Or.inr ⟨by rfl, rfl⟩
        simp only [Act.put, List.setIfInBounds_toArray, List.set_cons_zero, List.set_cons_succ]
        refine wpAnyH_take (i := 28) (oi := ?oi29) (v := undef) ?hi29 ?hs29 ?hf29 ?hr29 ?hQ29 ?hy29 ?hS29 ?hrest29
        case hi29 => (conv => lhs; simp only [List.getElem?_toArray, List.getElem?_cons_zero, List.getElem?_cons_succ]); try exact rfl
        case hs29 => kernel_rfl
        case hf29 => kernel_rfl
        case hr29 => kernel_rfl
        case hQ29 => exact fun _ _ _ h => h
        case hS29 => assumption
        case hy29 => exact Or.inr ⟨by rfl, rfl⟩
        simp only [Act.put, List.setIfInBounds_toArray, List.set_cons_zero, List.set_cons_succ]
        refine wpAnyH_take (i := 29) (oi := ?oi30) (v := undef) ?hi30 ?hs30 ?hf30 ?hr30 ?hQ30 ?hy30 ?hS30 ?hrest30
        case hi30 => (conv => lhs; simp only [List.getElem?_toArray, List.getElem?_cons_zero, List.getElem?_cons_succ]); try exact rfl
        case hs30 => kernel_rfl
        case hf30 => kernel_rfl
        case hr30 => kernel_rfl
        case hQ30 => exact fun _ _ _ h => h
        case hS30 => assumption
        case hy30 => exact Or.inr ⟨by rfl, rfl⟩
        simp only [Act.put, List.setIfInBounds_toArray, List.set_cons_zero, List.set_cons_succ]
        refine wpAnyH_take (i := 30) (oi := ?oi31) (v := undef) ?hi31 ?hs31 ?hf31 ?hr31 ?hQ31 ?hy31 ?hS31 ?hrest31
        case hi31 => (conv => lhs; simp only [List.getElem?_toArray, List.getElem?_cons_zero, List.getElem?_cons_succ]); try exact rfl
        case hs31 => kernel_rfl
        case hf31 => kernel_rfl
        case hr31 => kernel_rfl
        case hQ31 => exact fun _ _ _ h => h
        case hS31 => assumption
        case hy31 => exact Or.inr ⟨by rfl, rfl⟩
        simp only [Act.put, List.setIfInBounds_toArray, List.set_cons_zero, List.set_cons_succ]
        refine wpAnyH_take (i := 31) (oi := ?oi32) (v := undef) ?hi32 ?hs32 ?hf32 ?hr32 ?hQ32 ?hy32 ?hS32 ?hrest32
        case hi32 => (conv => lhs; simp only [List.getElem?_toArray, List.getElem?_cons_zero, List.getElem?_cons_succ]); try exact rfl
        case hs32 => kernel_rfl
        case hf32 => kernel_rfl
        case hr32 => kernel_rfl
        case hQ32 => exact fun _ _ _ h => h
        case hS32 => assumption
        case hy32 => exact Or.inr ⟨by rfl, rfl⟩
        simp only [Act.put, List.setIfInBounds_toArray, List.set_cons_zero, List.set_cons_succ]
        refine wpAnyH_take (i := 32) (oi := ?oi33) (v := undef) ?hi33 ?hs33 ?hf33 ?hr33 ?hQ33 ?hy33 ?hS33 ?hrest33
        case hi33 => (conv => lhs; simp only [List.getElem?_toArray, List.getElem?_cons_zero, List.getElem?_cons_succ]); try exact rfl
        case hs33 => kernel_rfl
        case hf33 => kernel_rfl
        case hr33 => kernel_rfl
        case hQ33 => exact fun _ _ _ h => h
        case hS33 => assumption
        case hy33 => exact Or.inr ⟨by rfl, rfl⟩
        simp only [Act.put, List.setIfInBounds_toArray, List.set_cons_zero, List.set_cons_succ]
        refine wpAnyH_take (i := 33) (oi := ?oi34) (v := undef) ?hi34 ?hs34 ?hf34 ?hr34 ?hQ34 ?hy34 ?hS34 ?hrest34
        case hi34 => (conv => lhs; simp only [List.getElem?_toArray, List.getElem?_cons_zero, List.getElem?_cons_succ]); try exact rfl
        case hs34 => kernel_rfl
        case hf34 => kernel_rfl
        case hr34 => kernel_rfl
        case hQ34 => exact fun _ _ _ h => h
        case hS34 => assumption
        case hy34 => exact Or.inr ⟨by rfl, rfl⟩
        simp only [Act.put, List.setIfInBounds_toArray, List.set_cons_zero, List.set_cons_succ]
        refine wpAnyH_take (i := 34) (oi := ?oi35) (v := undef) ?hi35 ?hs35 ?hf35 ?hr35 ?hQ35 ?hy35 ?hS35 ?hrest35
        case hi35 => (conv => lhs; simp only [List.getElem?_toArray, List.getElem?_cons_zero, List.getElem?_cons_succ]); try exact rfl
        case hs35 => kernel_rfl
        case hf35 => kernel_rfl
        case hr35 => kernel_rfl
        case hQ35 => exact fun _ _ _ h => h
        case hS35 => assumption
        case hy35 => exact Or.inr ⟨by rfl, rfl⟩
        simp only [Act.put, List.setIfInBounds_toArray, List.set_cons_zero, List.set_cons_succ]
        refine wpAnyH_take (i := 35) (oi := ?oi36) (v := undef) ?hi36 ?hs36 ?hf36 ?hr36 ?hQ36 ?hy36 ?hS36 ?hrest36
        case hi36 => (conv => lhs; simp only [List.getElem?_toArray, List.getElem?_cons_zero, List.getElem?_cons_succ]); try exact rfl
        case hs36 => kernel_rfl
        case hf36 => kernel_rfl
        case hr36 => kernel_rfl
        case hQ36 => exact fun _ _ _ h => h
        case hS36 => assumption
        case hy36 => exact Or.inr ⟨by rfl, rfl⟩
        simp only [Act.put, List.setIfInBounds_toArray, List.set_cons_zero, List.set_cons_succ]
        refine wpAnyH_take (i := 36) (oi := ?oi37) (v := undef) ?hi37 ?hs37 ?hf37 ?hr37 ?hQ37 ?hy37 ?hS37 ?hrest37
        case hi37 => (conv => lhs; simp only [List.getElem?_toArray, List.getElem?_cons_zero, List.getElem?_cons_succ]); try exact rfl
        case hs37 => kernel_rfl
        case hf37 => kernel_rfl
        case hr37 => kernel_rfl
        case hQ37 => exact fun _ _ _ h => h
        case hS37 => assumption
        case hy37 => exact Or.inr ⟨by rfl, rfl⟩
        simp only [Act.put, List.setIfInBounds_toArray, List.set_cons_zero, List.set_cons_succ]
        refine wpAnyH_take (i := 37) (oi := ?oi38) (v := undef) ?hi38 ?hs38 ?hf38 ?hr38 ?hQ38 ?hy38 ?hS38 ?hrest38
        case hi38 => (conv => lhs; simp only [List.getElem?_toArray, List.getElem?_cons_zero, List.getElem?_cons_succ]); try exact rfl
        case hs38 => kernel_rfl
        case hf38 => kernel_rfl
        case hr38 => kernel_rfl
        case hQ38 => exact fun _ _ _ h => h
        case hS38 => assumption
        case hy38 => exact Or.inr ⟨by rfl, rfl⟩
        simp only [Act.put, List.setIfInBounds_toArray, List.set_cons_zero, List.set_cons_succ]
        refine wpAnyH_take (i := 38) (oi := ?oi39) (v := undef) ?hi39 ?hs39 ?hf39 ?hr39 ?hQ39 ?hy39 ?hS39 ?hrest39
        case hi39 => (conv => lhs; simp only [List.getElem?_toArray, List.getElem?_cons_zero, List.getElem?_cons_succ]); try exact rfl
        case hs39 => kernel_rfl
        case hf39 => kernel_rfl
        case hr39 => kernel_rfl
        case hQ39 => exact fun _ _ _ h => h
        case hS39 => assumption
        case hy39 => exact Or.inr ⟨by rfl, rfl⟩
        simp only [Act.put, List.setIfInBounds_toArray, List.set_cons_zero, List.set_cons_succ]
        refine wpAnyH_take (i := 39) (oi := ?oi40) (v := undef) ?hi40 ?hs40 ?hf40 ?hr40 ?hQ40 ?hy40 ?hS40 ?hrest40
        case hi40 => (conv => lhs; simp only [List.getElem?_toArray, List.getElem?_cons_zero, List.getElem?_cons_succ]); try exact rfl
        case hs40 => kernel_rfl
        case hf40 => kernel_rfl
        case hr40 => kernel_rfl
        case hQ40 => exact fun _ _ _ h => h
        case hS40 => assumption
        case hy40 => exact Or.inr ⟨by rfl, rfl⟩
        simp only [Act.put, List.setIfInBounds_toArray, List.set_cons_zero, List.set_cons_succ]
        refine wpAnyH_take (i := 40) (oi := ?oi41) (v := ?v41) ?hi41 ?hs41 ?hf41 ?hr41 ?hQ41 ?hy41 ?hS41 ?hrest41
        case hi41 => (conv => lhs; simp only [List.getElem?_toArray, List.getElem?_cons_zero, List.getElem?_cons_succ]); try exact rfl
        case hs41 => kernel_rfl
        case hf41 => kernel_rfl
        case hr41 => kernel_rfl
        case hQ41 => exact fun _ _ _ h => h
        case hS41 => assumption
        case hy41 => refine Or.inl ⟨by rfl, ?_⟩; intro w hSw; (try dsimp only at hSw); go_simp; (try with_reducible rfl)
        simp only [Act.put, List.setIfInBounds_toArray, List.set_cons_zero, List.set_cons_succ]
        refine wpAnyH_done (by kernel_rfl) ?_ _
        go_wp2
        go_ret
        exact ⟨ret_bool Hf.out.symm, belN b1.drew hb7⟩
      rcases hh : (eh != hashI es) with _ | _
      rotate_left
      · have Hf := Lib.hid (Bad.out (by unfold entOkB; rw [show (hashI es == eh) = false by rw [beq_eq_false_iff_ne]; intro e; rw [e] at hh; simp at hh]; simp))
        go_wp2_with fail
        refine wp_region_held_drew (S := fun w' => w'.cell? ⟨wr.heap.size, 0, none⟩ = some (.int .i64 eh) ∧ w'.cell? ⟨wr.heap.size, 1, none⟩ = some (.int .i64 ei) ∧ w'.cell? ⟨wr.heap.size, 2, none⟩ = some (.string es) ∧ w'.cell? ⟨wr.heap.size, 3, none⟩ = some (.int .i64 ed)) (by kernel_rfl) ⟨y0, y1, y2, y3⟩ (fun hHeld => ?_)
        refine wpAnyH_take (i := 0) (oi := ?oi42) (v := ?v42) ?hi42 ?hs42 ?hf42 ?hr42 ?hQ42 ?hy42 ?hS42 ?hrest42
        case hi42 => (conv => lhs; simp only [List.getElem?_toArray, List.getElem?_cons_zero]); try exact rfl
        case hs42 => kernel_rfl
        case hf42 => kernel_rfl
        case hr42 => kernel_rfl
        case hQ42 => exact fun _ _ _ h => h
        case hS42 => assumption
        case hy42 => refine Or.inl ⟨by rfl, ?_⟩; intro w hSw; (try dsimp only at hSw); go_simp; (try with_reducible rfl)
        simp only [Act.put, List.setIfInBounds_toArray, List.set_cons_zero, List.set_cons_succ]
        refine wpAnyH_take (i := 1) (oi := ?oi43) (v := ?v43) ?hi43 ?hs43 ?hf43 ?hr43 ?hQ43 ?hy43 ?hS43 ?hrest43
        case hi43 => (conv => lhs; simp only [List.getElem?_toArray, List.getElem?_cons_zero, List.getElem?_cons_succ]); try exact rfl
        case hs43 => kernel_rfl
        case hf43 => kernel_rfl
        case hr43 => kernel_rfl
        case hQ43 => exact fun _ _ _ h => h
        case hS43 => assumption
        case hy43 => refine Or.inl ⟨by rfl, ?_⟩; intro w hSw; (try dsimp only at hSw); go_simp; (try with_reducible rfl)
        simp only [Act.put, List.setIfInBounds_toArray, List.set_cons_zero, List.set_cons_succ]
        refine wpAnyH_ready (rs := [2]) (by kernel_rfl) (by simp) ?_
        refine AllReadyH.cons (o := ?oi44) ?hi44 (fun K hK => ?_) AllReadyH.nil
        case hi44 => (conv => lhs; simp only [List.getElem?_toArray, List.getElem?_cons_zero, List.getElem?_cons_succ]); try exact rfl
        go_simp
        go_at_call 61
        refine (nameOk_spec es hszk _).mono ?_
        rintro e w7 ⟨rfl, hb7⟩
        refine hK.out _ _ (by obtain ⟨a0, a1, a2, a3⟩ := hHeld; exact ⟨keep1 hb7 a0 (Nat.le_refl _), keep1 hb7 a1 (Nat.le_refl _), keep1 hb7 a2 (Nat.le_refl _), keep1 hb7 a3 (Nat.le_refl _)⟩) (fun hHeld44 => ?_)
        clear hK K
        clear hHeld
        refine wpAnyH_take (i := 3) (oi := ?oi45) (v := ?v45) ?hi45 ?hs45 ?hf45 ?hr45 ?hQ45 ?hy45 ?hS45 ?hrest45
        case hi45 => (conv => lhs; simp only [List.getElem?_toArray, List.getElem?_cons_zero, List.getElem?_cons_succ]); try exact rfl
        case hs45 => kernel_rfl
        case hf45 => kernel_rfl
        case hr45 => kernel_rfl
        case hQ45 => exact fun _ _ _ h => h
        case hS45 => assumption
        case hy45 => refine Or.inl ⟨by rfl, ?_⟩; intro w hSw; (try dsimp only at hSw); go_simp; (try with_reducible rfl)
        simp only [Act.put, List.setIfInBounds_toArray, List.set_cons_zero, List.set_cons_succ]
        refine wpAnyH_take (i := 4) (oi := ?oi46) (v := ?v46) ?hi46 ?hs46 ?hf46 ?hr46 ?hQ46 ?hy46 ?hS46 ?hrest46
        case hi46 => (conv => lhs; simp only [List.getElem?_toArray, List.getElem?_cons_zero, List.getElem?_cons_succ]); try exact rfl
        case hs46 => kernel_rfl
        case hf46 => kernel_rfl
        case hr46 => kernel_rfl
        case hQ46 => exact fun _ _ _ h => h
        case hS46 => assumption
        case hy46 => refine Or.inl ⟨by rfl, ?_⟩; intro w hSw; (try dsimp only at hSw); go_simp; (try with_reducible rfl)
        simp only [Act.put, List.setIfInBounds_toArray, List.set_cons_zero, List.set_cons_succ]
        refine wpAnyH_take (i := 5) (oi := ?oi47) (v := ?v47) ?hi47 ?hs47 ?hf47 ?hr47 ?hQ47 ?hy47 ?hS47 ?hrest47
        case hi47 => (conv => lhs; simp only [List.getElem?_toArray, List.getElem?_cons_zero, List.getElem?_cons_succ]); try exact rfl
        case hs47 => kernel_rfl
        case hf47 => kernel_rfl
        case hr47 => kernel_rfl
        case hQ47 => exact fun _ _ _ h => h
        case hS47 => assumption
        case hy47 => refine Or.inl ⟨by rfl, ?_⟩; intro w hSw; (try dsimp only at hSw); go_simp; (try with_reducible rfl)
        simp only [Act.put, List.setIfInBounds_toArray, List.set_cons_zero, List.set_cons_succ]
        refine wpAnyH_take (i := 6) (oi := ?oi48) (v := ?v48) ?hi48 ?hs48 ?hf48 ?hr48 ?hQ48 ?hy48 ?hS48 ?hrest48
        case hi48 => (conv => lhs; simp only [List.getElem?_toArray, List.getElem?_cons_zero, List.getElem?_cons_succ]); try exact rfl
        case hs48 => kernel_rfl
        case hf48 => kernel_rfl
        case hr48 => kernel_rfl
        case hQ48 => exact fun _ _ _ h => h
        case hS48 => assumption
        case hy48 => refine Or.inl ⟨by rfl, ?_⟩; intro w hSw; (try dsimp only at hSw); go_simp; (try with_reducible rfl)
        simp only [Act.put, List.setIfInBounds_toArray, List.set_cons_zero, List.set_cons_succ]
        refine wpAnyH_take (i := 7) (oi := ?oi49) (v := ?v49) ?hi49 ?hs49 ?hf49 ?hr49 ?hQ49 ?hy49 ?hS49 ?hrest49
        case hi49 => (conv => lhs; simp only [List.getElem?_toArray, List.getElem?_cons_zero, List.getElem?_cons_succ]); try exact rfl
        case hs49 => kernel_rfl
        case hf49 => kernel_rfl
        case hr49 => kernel_rfl
        case hQ49 => exact fun _ _ _ h => h
        case hS49 => assumption
        case hy49 => refine Or.inl ⟨by rfl, ?_⟩; intro w hSw; (try dsimp only at hSw); go_simp; (try with_reducible rfl)
        simp only [Act.put, List.setIfInBounds_toArray, List.set_cons_zero, List.set_cons_succ]
        refine wpAnyH_take (i := 8) (oi := ?oi50) (v := ?v50) ?hi50 ?hs50 ?hf50 ?hr50 ?hQ50 ?hy50 ?hS50 ?hrest50
        case hi50 => (conv => lhs; simp only [List.getElem?_toArray, List.getElem?_cons_zero, List.getElem?_cons_succ]); try exact rfl
        case hs50 => kernel_rfl
        case hf50 => kernel_rfl
        case hr50 => kernel_rfl
        case hQ50 => exact fun _ _ _ h => h
        case hS50 => assumption
        case hy50 => refine Or.inl ⟨by rfl, ?_⟩; intro w hSw; (try dsimp only at hSw); go_simp; (try with_reducible rfl)
        simp only [Act.put, List.setIfInBounds_toArray, List.set_cons_zero, List.set_cons_succ]
        refine wpAnyH_ready (rs := [9]) (by kernel_rfl) (by simp) ?_
        refine AllReadyH.cons (o := ?oi51) ?hi51 (fun K hK => ?_) AllReadyH.nil
        case hi51 => (conv => lhs; simp only [List.getElem?_toArray, List.getElem?_cons_zero, List.getElem?_cons_succ]); try exact rfl
        go_simp
        go_at_call 62
        refine (hashOf_spec es hszk _).mono ?_
        rintro e w8 ⟨rfl, hb8⟩
        refine hK.out _ _ (by obtain ⟨a0, a1, a2, a3⟩ := hHeld44; exact ⟨keep1 hb8 a0 (Nat.le_refl _), keep1 hb8 a1 (Nat.le_refl _), keep1 hb8 a2 (Nat.le_refl _), keep1 hb8 a3 (Nat.le_refl _)⟩) (fun hHeld51 => ?_)
        clear hK K
        clear hHeld44
        refine wpAnyH_take (i := 10) (oi := ?oi52) (v := ?v52) ?hi52 ?hs52 ?hf52 ?hr52 ?hQ52 ?hy52 ?hS52 ?hrest52
        case hi52 => (conv => lhs; simp only [List.getElem?_toArray, List.getElem?_cons_zero, List.getElem?_cons_succ]); try exact rfl
        case hs52 => kernel_rfl
        case hf52 => kernel_rfl
        case hr52 => kernel_rfl
        case hQ52 => exact fun _ _ _ h => h
        case hS52 => assumption
        case hy52 => refine Or.inl ⟨by rfl, ?_⟩; intro w hSw; (try dsimp only at hSw); go_simp; (try with_reducible rfl)
        simp only [Act.put, List.setIfInBounds_toArray, List.set_cons_zero, List.set_cons_succ]
        refine wpAnyH_take (i := 11) (oi := ?oi53) (v := ?v53) ?hi53 ?hs53 ?hf53 ?hr53 ?hQ53 ?hy53 ?hS53 ?hrest53
        case hi53 => (conv => lhs; simp only [List.getElem?_toArray, List.getElem?_cons_zero, List.getElem?_cons_succ]); try exact rfl
        case hs53 => kernel_rfl
        case hf53 => kernel_rfl
        case hr53 => kernel_rfl
        case hQ53 => exact fun _ _ _ h => h
        case hS53 => assumption
        case hy53 => refine Or.inl ⟨by rfl, ?_⟩; intro w hSw; (try dsimp only at hSw); go_simp; (try with_reducible rfl)
        simp only [Act.put, List.setIfInBounds_toArray, List.set_cons_zero, List.set_cons_succ]
        refine wpAnyH_take (i := 12) (oi := ?oi54) (v := ?v54) ?hi54 ?hs54 ?hf54 ?hr54 ?hQ54 ?hy54 ?hS54 ?hrest54
        case hi54 => (conv => lhs; simp only [List.getElem?_toArray, List.getElem?_cons_zero, List.getElem?_cons_succ]); try exact rfl
        case hs54 => kernel_rfl
        case hf54 => kernel_rfl
        case hr54 => kernel_rfl
        case hQ54 => exact fun _ _ _ h => h
        case hS54 => assumption
        case hy54 => refine Or.inl ⟨by rfl, ?_⟩; intro w hSw; (try dsimp only at hSw); go_simp; (try with_reducible rfl)
        simp only [Act.put, List.setIfInBounds_toArray, List.set_cons_zero, List.set_cons_succ]
        refine wpAnyH_take (i := 13) (oi := ?oi55) (v := undef) ?hi55 ?hs55 ?hf55 ?hr55 ?hQ55 ?hy55 ?hS55 ?hrest55
        case hi55 => (conv => lhs; simp only [List.getElem?_toArray, List.getElem?_cons_zero, List.getElem?_cons_succ]); try exact rfl
        case hs55 => kernel_rfl
        case hf55 => kernel_rfl
        case hr55 => kernel_rfl
        case hQ55 => exact fun _ _ _ h => h
        case hS55 => assumption
        case hy55 => exact Or.inr ⟨by rfl, rfl⟩
        simp only [Act.put, List.setIfInBounds_toArray, List.set_cons_zero, List.set_cons_succ]
        refine wpAnyH_take (i := 14) (oi := ?oi56) (v := undef) ?hi56 ?hs56 ?hf56 ?hr56 ?hQ56 ?hy56 ?hS56 ?hrest56
        case hi56 => (conv => lhs; simp only [List.getElem?_toArray, List.getElem?_cons_zero, List.getElem?_cons_succ]); try exact rfl
        case hs56 => kernel_rfl
        case hf56 => kernel_rfl
        case hr56 => kernel_rfl
        case hQ56 => exact fun _ _ _ h => h
        case hS56 => assumption
        case hy56 => exact Or.inr ⟨by rfl, rfl⟩
        simp only [Act.put, List.setIfInBounds_toArray, List.set_cons_zero, List.set_cons_succ]
        refine wpAnyH_take (i := 15) (oi := ?oi57) (v := undef) ?hi57 ?hs57 ?hf57 ?hr57 ?hQ57 ?hy57 ?hS57 ?hrest57
        case hi57 => (conv => lhs; simp only [List.getElem?_toArray, List.getElem?_cons_zero, List.getElem?_cons_succ]); try exact rfl
        case hs57 => kernel_rfl
        case hf57 => kernel_rfl
        case hr57 => kernel_rfl
        case hQ57 => exact fun _ _ _ h => h
        case hS57 => assumption
        case hy57 => exact Or.inr ⟨by rfl, rfl⟩
        simp only [Act.put, List.setIfInBounds_toArray, List.set_cons_zero, List.set_cons_succ]
        refine wpAnyH_take (i := 16) (oi := ?oi58) (v := undef) ?hi58 ?hs58 ?hf58 ?hr58 ?hQ58 ?hy58 ?hS58 ?hrest58
        case hi58 => (conv => lhs; simp only [List.getElem?_toArray, List.getElem?_cons_zero, List.getElem?_cons_succ]); try exact rfl
        case hs58 => kernel_rfl
        case hf58 => kernel_rfl
        case hr58 => kernel_rfl
        case hQ58 => exact fun _ _ _ h => h
        case hS58 => assumption
        case hy58 => exact Or.inr ⟨by rfl, rfl⟩
        simp only [Act.put, List.setIfInBounds_toArray, List.set_cons_zero, List.set_cons_succ]
        refine wpAnyH_take (i := 17) (oi := ?oi59) (v := ?v59) ?hi59 ?hs59 ?hf59 ?hr59 ?hQ59 ?hy59 ?hS59 ?hrest59
        case hi59 => (conv => lhs; simp only [List.getElem?_toArray, List.getElem?_cons_zero, List.getElem?_cons_succ]); try exact rfl
        case hs59 => kernel_rfl
        case hf59 => kernel_rfl
        case hr59 => kernel_rfl
        case hQ59 => exact fun _ _ _ h => h
        case hS59 => assumption
        case hy59 => refine Or.inl ⟨by rfl, ?_⟩; intro w hSw; (try dsimp only at hSw); go_simp; (try with_reducible rfl)
        simp only [Act.put, List.setIfInBounds_toArray, List.set_cons_zero, List.set_cons_succ]
        refine wpAnyH_take (i := 18) (oi := ?oi60) (v := ?v60) ?hi60 ?hs60 ?hf60 ?hr60 ?hQ60 ?hy60 ?hS60 ?hrest60
        case hi60 => (conv => lhs; simp only [List.getElem?_toArray, List.getElem?_cons_zero, List.getElem?_cons_succ]); try exact rfl
        case hs60 => kernel_rfl
        case hf60 => kernel_rfl
        case hr60 => kernel_rfl
        case hQ60 => exact fun _ _ _ h => h
        case hS60 => assumption
        case hy60 => refine Or.inl ⟨by rfl, ?_⟩; intro w hSw; (try dsimp only at hSw); go_simp; (try with_reducible rfl)
        simp only [Act.put, List.setIfInBounds_toArray, List.set_cons_zero, List.set_cons_succ]
        refine wpAnyH_take (i := 19) (oi := ?oi61) (v := undef) ?hi61 ?hs61 ?hf61 ?hr61 ?hQ61 ?hy61 ?hS61 ?hrest61
        case hi61 => (conv => lhs; simp only [List.getElem?_toArray, List.getElem?_cons_zero, List.getElem?_cons_succ]); try exact rfl
        case hs61 => kernel_rfl
        case hf61 => kernel_rfl
        case hr61 => kernel_rfl
        case hQ61 => exact fun _ _ _ h => h
        case hS61 => assumption
        case hy61 => exact Or.inr ⟨by rfl, rfl⟩
        simp only [Act.put, List.setIfInBounds_toArray, List.set_cons_zero, List.set_cons_succ]
        refine wpAnyH_take (i := 20) (oi := ?oi62) (v := undef) ?hi62 ?hs62 ?hf62 ?hr62 ?hQ62 ?hy62 ?hS62 ?hrest62
        case hi62 => (conv => lhs; simp only [List.getElem?_toArray, List.getElem?_cons_zero, List.getElem?_cons_succ]); try exact rfl
        case hs62 => kernel_rfl
        case hf62 => kernel_rfl
        case hr62 => kernel_rfl
        case hQ62 => exact fun _ _ _ h => h
        case hS62 => assumption
        case hy62 => exact Or.inr ⟨by rfl, rfl⟩
        simp only [Act.put, List.setIfInBounds_toArray, List.set_cons_zero, List.set_cons_succ]
        refine wpAnyH_take (i := 21) (oi := ?oi63) (v := undef) ?hi63 ?hs63 ?hf63 ?hr63 ?hQ63 ?hy63 ?hS63 ?hrest63
        case hi63 => (conv => lhs; simp only [List.getElem?_toArray, List.getElem?_cons_zero, List.getElem?_cons_succ]); try exact rfl
        case hs63 => kernel_rfl
        case hf63 => kernel_rfl
        case hr63 => kernel_rfl
        case hQ63 => exact fun _ _ _ h => h
        case hS63 => assumption
        case hy63 => exact Or.inr ⟨by rfl, rfl⟩
        simp only [Act.put, List.setIfInBounds_toArray, List.set_cons_zero, List.set_cons_succ]
        refine wpAnyH_take (i := 22) (oi := ?oi64) (v := undef) ?hi64 ?hs64 ?hf64 ?hr64 ?hQ64 ?hy64 ?hS64 ?hrest64
        case hi64 => (conv => lhs; simp only [List.getElem?_toArray, List.getElem?_cons_zero, List.getElem?_cons_succ]); try exact rfl
        case hs64 => kernel_rfl
        case hf64 => kernel_rfl
        case hr64 => kernel_rfl
        case hQ64 => exact fun _ _ _ h => h
        case hS64 => assumption
        case hy64 => exact Or.inr ⟨by rfl, rfl⟩
        simp only [Act.put, List.setIfInBounds_toArray, List.set_cons_zero, List.set_cons_succ]
        refine wpAnyH_take (i := 23) (oi := ?oi65) (v := ?v65) ?hi65 ?hs65 ?hf65 ?hr65 ?hQ65 ?hy65 ?hS65 ?hrest65
        case hi65 => (conv => lhs; simp only [List.getElem?_toArray, List.getElem?_cons_zero, List.getElem?_cons_succ]); try exact rfl
        case hs65 => kernel_rfl
        case hf65 => kernel_rfl
        case hr65 => kernel_rfl
        case hQ65 => exact fun _ _ _ h => h
        case hS65 => assumption
        case hy65 => refine Or.inl ⟨by rfl, ?_⟩; intro w hSw; (try dsimp only at hSw); go_simp; (try with_reducible rfl)
        simp only [Act.put, List.setIfInBounds_toArray, List.set_cons_zero, List.set_cons_succ]
        refine wpAnyH_take (i := 24) (oi := ?oi66) (v := ?v66) ?hi66 ?hs66 ?hf66 ?hr66 ?hQ66 ?hy66 ?hS66 ?hrest66
        case hi66 => (conv => lhs; simp only [List.getElem?_toArray, List.getElem?_cons_zero, List.getElem?_cons_succ]); try exact rfl
        case hs66 => kernel_rfl
        case hf66 => kernel_rfl
        case hr66 => kernel_rfl
        case hQ66 => exact fun _ _ _ h => h
        case hS66 => assumption
        case hy66 => refine Or.inl ⟨by rfl, ?_⟩; intro w hSw; (try dsimp only at hSw); go_simp; (try with_reducible rfl)
        simp only [Act.put, List.setIfInBounds_toArray, List.set_cons_zero, List.set_cons_succ]
        refine wpAnyH_take (i := 25) (oi := ?oi67) (v := undef) ?hi67 ?hs67 ?hf67 ?hr67 ?hQ67 ?hy67 ?hS67 ?hrest67
        case hi67 => (conv => lhs; simp only [List.getElem?_toArray, List.getElem?_cons_zero, List.getElem?_cons_succ]); try exact rfl
        case hs67 => kernel_rfl
        case hf67 => kernel_rfl
        case hr67 => kernel_rfl
        case hQ67 => exact fun _ _ _ h => h
        case hS67 => assumption
        case hy67 => exact Or.inr ⟨by rfl, rfl⟩
        simp only [Act.put, List.setIfInBounds_toArray, List.set_cons_zero, List.set_cons_succ]
        refine wpAnyH_take (i := 26) (oi := ?oi68) (v := undef) ?hi68 ?hs68 ?hf68 ?hr68 ?hQ68 ?hy68 ?hS68 ?hrest68
        case hi68 => (conv => lhs; simp only [List.getElem?_toArray, List.getElem?_cons_zero, List.getElem?_cons_succ]); try exact rfl
        case hs68 => kernel_rfl
        case hf68 => kernel_rfl
        case hr68 => kernel_rfl
        case hQ68 => exact fun _ _ _ h => h
        case hS68 => assumption
        case hy68 => exact Or.inr ⟨by rfl, rfl⟩
        simp only [Act.put, List.setIfInBounds_toArray, List.set_cons_zero, List.set_cons_succ]
        refine wpAnyH_take (i := 27) (oi := ?oi69) (v := undef) ?hi69 ?hs69 ?hf69 ?hr69 ?hQ69 ?hy69 ?hS69 ?hrest69
        case hi69 => (conv => lhs; simp only [List.getElem?_toArray, List.getElem?_cons_zero, List.getElem?_cons_succ]); try exact rfl
        case hs69 => kernel_rfl
        case hf69 => kernel_rfl
        case hr69 => kernel_rfl
        case hQ69 => exact fun _ _ _ h => h
        case hS69 => assumption
        case hy69 => exact Or.inr ⟨by rfl, rfl⟩
        simp only [Act.put, List.setIfInBounds_toArray, List.set_cons_zero, List.set_cons_succ]
        refine wpAnyH_take (i := 28) (oi := ?oi70) (v := undef) ?hi70 ?hs70 ?hf70 ?hr70 ?hQ70 ?hy70 ?hS70 ?hrest70
        case hi70 => (conv => lhs; simp only [List.getElem?_toArray, List.getElem?_cons_zero, List.getElem?_cons_succ]); try exact rfl
        case hs70 => kernel_rfl
        case hf70 => kernel_rfl
        case hr70 => kernel_rfl
        case hQ70 => exact fun _ _ _ h => h
        case hS70 => assumption
        case hy70 => exact Or.inr ⟨by rfl, rfl⟩
        simp only [Act.put, List.setIfInBounds_toArray, List.set_cons_zero, List.set_cons_succ]
        refine wpAnyH_take (i := 29) (oi := ?oi71) (v := undef) ?hi71 ?hs71 ?hf71 ?hr71 ?hQ71 ?hy71 ?hS71 ?hrest71
        case hi71 => (conv => lhs; simp only [List.getElem?_toArray, List.getElem?_cons_zero, List.getElem?_cons_succ]); try exact rfl
        case hs71 => kernel_rfl
        case hf71 => kernel_rfl
        case hr71 => kernel_rfl
        case hQ71 => exact fun _ _ _ h => h
        case hS71 => assumption
        case hy71 => exact Or.inr ⟨by rfl, rfl⟩
        simp only [Act.put, List.setIfInBounds_toArray, List.set_cons_zero, List.set_cons_succ]
        refine wpAnyH_take (i := 30) (oi := ?oi72) (v := undef) ?hi72 ?hs72 ?hf72 ?hr72 ?hQ72 ?hy72 ?hS72 ?hrest72
        case hi72 => (conv => lhs; simp only [List.getElem?_toArray, List.getElem?_cons_zero, List.getElem?_cons_succ]); try exact rfl
        case hs72 => kernel_rfl
        case hf72 => kernel_rfl
        case hr72 => kernel_rfl
        case hQ72 => exact fun _ _ _ h => h
        case hS72 => assumption
        case hy72 => exact Or.inr ⟨by rfl, rfl⟩
        simp only [Act.put, List.setIfInBounds_toArray, List.set_cons_zero, List.set_cons_succ]
        refine wpAnyH_take (i := 31) (oi := ?oi73) (v := undef) ?hi73 ?hs73 ?hf73 ?hr73 ?hQ73 ?hy73 ?hS73 ?hrest73
        case hi73 => (conv => lhs; simp only [List.getElem?_toArray, List.getElem?_cons_zero, List.getElem?_cons_succ]); try exact rfl
        case hs73 => kernel_rfl
        case hf73 => kernel_rfl
        case hr73 => kernel_rfl
        case hQ73 => exact fun _ _ _ h => h
        case hS73 => assumption
        case hy73 => exact Or.inr ⟨by rfl, rfl⟩
        simp only [Act.put, List.setIfInBounds_toArray, List.set_cons_zero, List.set_cons_succ]
        refine wpAnyH_take (i := 32) (oi := ?oi74) (v := undef) ?hi74 ?hs74 ?hf74 ?hr74 ?hQ74 ?hy74 ?hS74 ?hrest74
        case hi74 => (conv => lhs; simp only [List.getElem?_toArray, List.getElem?_cons_zero, List.getElem?_cons_succ]); try exact rfl
        case hs74 => kernel_rfl
        case hf74 => kernel_rfl
        case hr74 => kernel_rfl
        case hQ74 => exact fun _ _ _ h => h
        case hS74 => assumption
        case hy74 => exact Or.inr ⟨by rfl, rfl⟩
        simp only [Act.put, List.setIfInBounds_toArray, List.set_cons_zero, List.set_cons_succ]
        refine wpAnyH_take (i := 33) (oi := ?oi75) (v := undef) ?hi75 ?hs75 ?hf75 ?hr75 ?hQ75 ?hy75 ?hS75 ?hrest75
        case hi75 => (conv => lhs; simp only [List.getElem?_toArray, List.getElem?_cons_zero, List.getElem?_cons_succ]); try exact rfl
        case hs75 => kernel_rfl
        case hf75 => kernel_rfl
        case hr75 => kernel_rfl
        case hQ75 => exact fun _ _ _ h => h
        case hS75 => assumption
        case hy75 => exact Or.inr ⟨by rfl, rfl⟩
        simp only [Act.put, List.setIfInBounds_toArray, List.set_cons_zero, List.set_cons_succ]
        refine wpAnyH_take (i := 34) (oi := ?oi76) (v := undef) ?hi76 ?hs76 ?hf76 ?hr76 ?hQ76 ?hy76 ?hS76 ?hrest76
        case hi76 => (conv => lhs; simp only [List.getElem?_toArray, List.getElem?_cons_zero, List.getElem?_cons_succ]); try exact rfl
        case hs76 => kernel_rfl
        case hf76 => kernel_rfl
        case hr76 => kernel_rfl
        case hQ76 => exact fun _ _ _ h => h
        case hS76 => assumption
        case hy76 => exact Or.inr ⟨by rfl, rfl⟩
        simp only [Act.put, List.setIfInBounds_toArray, List.set_cons_zero, List.set_cons_succ]
        refine wpAnyH_take (i := 35) (oi := ?oi77) (v := undef) ?hi77 ?hs77 ?hf77 ?hr77 ?hQ77 ?hy77 ?hS77 ?hrest77
        case hi77 => (conv => lhs; simp only [List.getElem?_toArray, List.getElem?_cons_zero, List.getElem?_cons_succ]); try exact rfl
        case hs77 => kernel_rfl
        case hf77 => kernel_rfl
        case hr77 => kernel_rfl
        case hQ77 => exact fun _ _ _ h => h
        case hS77 => assumption
        case hy77 => exact Or.inr ⟨by rfl, rfl⟩
        simp only [Act.put, List.setIfInBounds_toArray, List.set_cons_zero, List.set_cons_succ]
        refine wpAnyH_take (i := 36) (oi := ?oi78) (v := undef) ?hi78 ?hs78 ?hf78 ?hr78 ?hQ78 ?hy78 ?hS78 ?hrest78
        case hi78 => (conv => lhs; simp only [List.getElem?_toArray, List.getElem?_cons_zero, List.getElem?_cons_succ]); try exact rfl
        case hs78 => kernel_rfl
        case hf78 => kernel_rfl
        case hr78 => kernel_rfl
        case hQ78 => exact fun _ _ _ h => h
        case hS78 => assumption
        case hy78 => exact Or.inr ⟨by rfl, rfl⟩
        simp only [Act.put, List.setIfInBounds_toArray, List.set_cons_zero, List.set_cons_succ]
        refine wpAnyH_take (i := 37) (oi := ?oi79) (v := undef) ?hi79 ?hs79 ?hf79 ?hr79 ?hQ79 ?hy79 ?hS79 ?hrest79
        case hi79 => (conv => lhs; simp only [List.getElem?_toArray, List.getElem?_cons_zero, List.getElem?_cons_succ]); try exact rfl
        case hs79 => kernel_rfl
        case hf79 => kernel_rfl
        case hr79 => kernel_rfl
        case hQ79 => exact fun _ _ _ h => h
        case hS79 => assumption
        case hy79 => exact Or.inr ⟨by rfl, rfl⟩
        simp only [Act.put, List.setIfInBounds_toArray, List.set_cons_zero, List.set_cons_succ]
        refine wpAnyH_take (i := 38) (oi := ?oi80) (v := undef) ?hi80 ?hs80 ?hf80 ?hr80 ?hQ80 ?hy80 ?hS80 ?hrest80
        case hi80 => (conv => lhs; simp only [List.getElem?_toArray, List.getElem?_cons_zero, List.getElem?_cons_succ]); try exact rfl
        case hs80 => kernel_rfl
        case hf80 => kernel_rfl
        case hr80 => kernel_rfl
        case hQ80 => exact fun _ _ _ h => h
        case hS80 => assumption
        case hy80 => exact Or.inr ⟨by rfl, rfl⟩
        simp only [Act.put, List.setIfInBounds_toArray, List.set_cons_zero, List.set_cons_succ]
        refine wpAnyH_take (i := 39) (oi := ?oi81) (v := undef) ?hi81 ?hs81 ?hf81 ?hr81 ?hQ81 ?hy81 ?hS81 ?hrest81
        case hi81 => (conv => lhs; simp only [List.getElem?_toArray, List.getElem?_cons_zero, List.getElem?_cons_succ]); try exact rfl
        case hs81 => kernel_rfl
        case hf81 => kernel_rfl
        case hr81 => kernel_rfl
        case hQ81 => exact fun _ _ _ h => h
        case hS81 => assumption
        case hy81 => exact Or.inr ⟨by rfl, rfl⟩
        simp only [Act.put, List.setIfInBounds_toArray, List.set_cons_zero, List.set_cons_succ]
        refine wpAnyH_take (i := 40) (oi := ?oi82) (v := ?v82) ?hi82 ?hs82 ?hf82 ?hr82 ?hQ82 ?hy82 ?hS82 ?hrest82
        case hi82 => (conv => lhs; simp only [List.getElem?_toArray, List.getElem?_cons_zero, List.getElem?_cons_succ]); try exact rfl
        case hs82 => kernel_rfl
        case hf82 => kernel_rfl
        case hr82 => kernel_rfl
        case hQ82 => exact fun _ _ _ h => h
        case hS82 => assumption
        case hy82 => refine Or.inl ⟨by rfl, ?_⟩; intro w hSw; (try dsimp only at hSw); go_simp; (try with_reducible rfl)
        simp only [Act.put, List.setIfInBounds_toArray, List.set_cons_zero, List.set_cons_succ]
        refine wpAnyH_done (by kernel_rfl) ?_ _
        go_wp2
        go_ret
        exact ⟨ret_bool Hf.out.symm, belN (belN b1.drew hb7) hb8⟩
      have hhe := Lib.hid (show (hashI es == eh) = true by rw [beq_iff_eq]; have := hh; simp at this; exact this.symm)
      rcases hx : inI ei 0 12 with _ | _
      · have Hf := Lib.hid (Bad.out (by unfold entOkB; rw [hx]; simp))
        go_wp2_with fail
        refine wp_region_held_drew (S := fun w' => w'.cell? ⟨wr.heap.size, 0, none⟩ = some (.int .i64 eh) ∧ w'.cell? ⟨wr.heap.size, 1, none⟩ = some (.int .i64 ei) ∧ w'.cell? ⟨wr.heap.size, 2, none⟩ = some (.string es) ∧ w'.cell? ⟨wr.heap.size, 3, none⟩ = some (.int .i64 ed)) (by kernel_rfl) ⟨y0, y1, y2, y3⟩ (fun hHeld => ?_)
        refine wpAnyH_take (i := 0) (oi := ?oi83) (v := ?v83) ?hi83 ?hs83 ?hf83 ?hr83 ?hQ83 ?hy83 ?hS83 ?hrest83
        case hi83 => (conv => lhs; simp only [List.getElem?_toArray, List.getElem?_cons_zero]); try exact rfl
        case hs83 => kernel_rfl
        case hf83 => kernel_rfl
        case hr83 => kernel_rfl
        case hQ83 => exact fun _ _ _ h => h
        case hS83 => assumption
        case hy83 => refine Or.inl ⟨by rfl, ?_⟩; intro w hSw; (try dsimp only at hSw); go_simp; (try with_reducible rfl)
        simp only [Act.put, List.setIfInBounds_toArray, List.set_cons_zero, List.set_cons_succ]
        refine wpAnyH_take (i := 1) (oi := ?oi84) (v := ?v84) ?hi84 ?hs84 ?hf84 ?hr84 ?hQ84 ?hy84 ?hS84 ?hrest84
        case hi84 => (conv => lhs; simp only [List.getElem?_toArray, List.getElem?_cons_zero, List.getElem?_cons_succ]); try exact rfl
        case hs84 => kernel_rfl
        case hf84 => kernel_rfl
        case hr84 => kernel_rfl
        case hQ84 => exact fun _ _ _ h => h
        case hS84 => assumption
        case hy84 => refine Or.inl ⟨by rfl, ?_⟩; intro w hSw; (try dsimp only at hSw); go_simp; (try with_reducible rfl)
        simp only [Act.put, List.setIfInBounds_toArray, List.set_cons_zero, List.set_cons_succ]
        refine wpAnyH_ready (rs := [2]) (by kernel_rfl) (by simp) ?_
        refine AllReadyH.cons (o := ?oi85) ?hi85 (fun K hK => ?_) AllReadyH.nil
        case hi85 => (conv => lhs; simp only [List.getElem?_toArray, List.getElem?_cons_zero, List.getElem?_cons_succ]); try exact rfl
        go_simp
        go_at_call 61
        refine (nameOk_spec es hszk _).mono ?_
        rintro e w7 ⟨rfl, hb7⟩
        refine hK.out _ _ (by obtain ⟨a0, a1, a2, a3⟩ := hHeld; exact ⟨keep1 hb7 a0 (Nat.le_refl _), keep1 hb7 a1 (Nat.le_refl _), keep1 hb7 a2 (Nat.le_refl _), keep1 hb7 a3 (Nat.le_refl _)⟩) (fun hHeld85 => ?_)
        clear hK K
        clear hHeld
        refine wpAnyH_take (i := 3) (oi := ?oi86) (v := ?v86) ?hi86 ?hs86 ?hf86 ?hr86 ?hQ86 ?hy86 ?hS86 ?hrest86
        case hi86 => (conv => lhs; simp only [List.getElem?_toArray, List.getElem?_cons_zero, List.getElem?_cons_succ]); try exact rfl
        case hs86 => kernel_rfl
        case hf86 => kernel_rfl
        case hr86 => kernel_rfl
        case hQ86 => exact fun _ _ _ h => h
        case hS86 => assumption
        case hy86 => refine Or.inl ⟨by rfl, ?_⟩; intro w hSw; (try dsimp only at hSw); go_simp; (try with_reducible rfl)
        simp only [Act.put, List.setIfInBounds_toArray, List.set_cons_zero, List.set_cons_succ]
        refine wpAnyH_take (i := 4) (oi := ?oi87) (v := ?v87) ?hi87 ?hs87 ?hf87 ?hr87 ?hQ87 ?hy87 ?hS87 ?hrest87
        case hi87 => (conv => lhs; simp only [List.getElem?_toArray, List.getElem?_cons_zero, List.getElem?_cons_succ]); try exact rfl
        case hs87 => kernel_rfl
        case hf87 => kernel_rfl
        case hr87 => kernel_rfl
        case hQ87 => exact fun _ _ _ h => h
        case hS87 => assumption
        case hy87 => refine Or.inl ⟨by rfl, ?_⟩; intro w hSw; (try dsimp only at hSw); go_simp; (try with_reducible rfl)
        simp only [Act.put, List.setIfInBounds_toArray, List.set_cons_zero, List.set_cons_succ]
        refine wpAnyH_take (i := 5) (oi := ?oi88) (v := ?v88) ?hi88 ?hs88 ?hf88 ?hr88 ?hQ88 ?hy88 ?hS88 ?hrest88
        case hi88 => (conv => lhs; simp only [List.getElem?_toArray, List.getElem?_cons_zero, List.getElem?_cons_succ]); try exact rfl
        case hs88 => kernel_rfl
        case hf88 => kernel_rfl
        case hr88 => kernel_rfl
        case hQ88 => exact fun _ _ _ h => h
        case hS88 => assumption
        case hy88 => refine Or.inl ⟨by rfl, ?_⟩; intro w hSw; (try dsimp only at hSw); go_simp; (try with_reducible rfl)
        simp only [Act.put, List.setIfInBounds_toArray, List.set_cons_zero, List.set_cons_succ]
        refine wpAnyH_take (i := 6) (oi := ?oi89) (v := ?v89) ?hi89 ?hs89 ?hf89 ?hr89 ?hQ89 ?hy89 ?hS89 ?hrest89
        case hi89 => (conv => lhs; simp only [List.getElem?_toArray, List.getElem?_cons_zero, List.getElem?_cons_succ]); try exact rfl
        case hs89 => kernel_rfl
        case hf89 => kernel_rfl
        case hr89 => kernel_rfl
        case hQ89 => exact fun _ _ _ h => h
        case hS89 => assumption
        case hy89 => refine Or.inl ⟨by rfl, ?_⟩; intro w hSw; (try dsimp only at hSw); go_simp; (try with_reducible rfl)
        simp only [Act.put, List.setIfInBounds_toArray, List.set_cons_zero, List.set_cons_succ]
        refine wpAnyH_take (i := 7) (oi := ?oi90) (v := ?v90) ?hi90 ?hs90 ?hf90 ?hr90 ?hQ90 ?hy90 ?hS90 ?hrest90
        case hi90 => (conv => lhs; simp only [List.getElem?_toArray, List.getElem?_cons_zero, List.getElem?_cons_succ]); try exact rfl
        case hs90 => kernel_rfl
        case hf90 => kernel_rfl
        case hr90 => kernel_rfl
        case hQ90 => exact fun _ _ _ h => h
        case hS90 => assumption
        case hy90 => refine Or.inl ⟨by rfl, ?_⟩; intro w hSw; (try dsimp only at hSw); go_simp; (try with_reducible rfl)
        simp only [Act.put, List.setIfInBounds_toArray, List.set_cons_zero, List.set_cons_succ]
        refine wpAnyH_take (i := 8) (oi := ?oi91) (v := ?v91) ?hi91 ?hs91 ?hf91 ?hr91 ?hQ91 ?hy91 ?hS91 ?hrest91
        case hi91 => (conv => lhs; simp only [List.getElem?_toArray, List.getElem?_cons_zero, List.getElem?_cons_succ]); try exact rfl
        case hs91 => kernel_rfl
        case hf91 => kernel_rfl
        case hr91 => kernel_rfl
        case hQ91 => exact fun _ _ _ h => h
        case hS91 => assumption
        case hy91 => refine Or.inl ⟨by rfl, ?_⟩; intro w hSw; (try dsimp only at hSw); go_simp; (try with_reducible rfl)
        simp only [Act.put, List.setIfInBounds_toArray, List.set_cons_zero, List.set_cons_succ]
        refine wpAnyH_ready (rs := [9]) (by kernel_rfl) (by simp) ?_
        refine AllReadyH.cons (o := ?oi92) ?hi92 (fun K hK => ?_) AllReadyH.nil
        case hi92 => (conv => lhs; simp only [List.getElem?_toArray, List.getElem?_cons_zero, List.getElem?_cons_succ]); try exact rfl
        go_simp
        go_at_call 62
        refine (hashOf_spec es hszk _).mono ?_
        rintro e w8 ⟨rfl, hb8⟩
        refine hK.out _ _ (by obtain ⟨a0, a1, a2, a3⟩ := hHeld85; exact ⟨keep1 hb8 a0 (Nat.le_refl _), keep1 hb8 a1 (Nat.le_refl _), keep1 hb8 a2 (Nat.le_refl _), keep1 hb8 a3 (Nat.le_refl _)⟩) (fun hHeld92 => ?_)
        clear hK K
        clear hHeld85
        refine wpAnyH_take (i := 10) (oi := ?oi93) (v := ?v93) ?hi93 ?hs93 ?hf93 ?hr93 ?hQ93 ?hy93 ?hS93 ?hrest93
        case hi93 => (conv => lhs; simp only [List.getElem?_toArray, List.getElem?_cons_zero, List.getElem?_cons_succ]); try exact rfl
        case hs93 => kernel_rfl
        case hf93 => kernel_rfl
        case hr93 => kernel_rfl
        case hQ93 => exact fun _ _ _ h => h
        case hS93 => assumption
        case hy93 => refine Or.inl ⟨by rfl, ?_⟩; intro w hSw; (try dsimp only at hSw); go_simp; (try with_reducible rfl)
        simp only [Act.put, List.setIfInBounds_toArray, List.set_cons_zero, List.set_cons_succ]
        refine wpAnyH_take (i := 11) (oi := ?oi94) (v := ?v94) ?hi94 ?hs94 ?hf94 ?hr94 ?hQ94 ?hy94 ?hS94 ?hrest94
        case hi94 => (conv => lhs; simp only [List.getElem?_toArray, List.getElem?_cons_zero, List.getElem?_cons_succ]); try exact rfl
        case hs94 => kernel_rfl
        case hf94 => kernel_rfl
        case hr94 => kernel_rfl
        case hQ94 => exact fun _ _ _ h => h
        case hS94 => assumption
        case hy94 => refine Or.inl ⟨by rfl, ?_⟩; intro w hSw; (try dsimp only at hSw); go_simp; (try with_reducible rfl)
        simp only [Act.put, List.setIfInBounds_toArray, List.set_cons_zero, List.set_cons_succ]
        refine wpAnyH_take (i := 12) (oi := ?oi95) (v := ?v95) ?hi95 ?hs95 ?hf95 ?hr95 ?hQ95 ?hy95 ?hS95 ?hrest95
        case hi95 => (conv => lhs; simp only [List.getElem?_toArray, List.getElem?_cons_zero, List.getElem?_cons_succ]); try exact rfl
        case hs95 => kernel_rfl
        case hf95 => kernel_rfl
        case hr95 => kernel_rfl
        case hQ95 => exact fun _ _ _ h => h
        case hS95 => assumption
        case hy95 => refine Or.inl ⟨by rfl, ?_⟩; intro w hSw; (try dsimp only at hSw); go_simp; (try with_reducible rfl)
        simp only [Act.put, List.setIfInBounds_toArray, List.set_cons_zero, List.set_cons_succ]
        refine wpAnyH_take (i := 13) (oi := ?oi96) (v := ?v96) ?hi96 ?hs96 ?hf96 ?hr96 ?hQ96 ?hy96 ?hS96 ?hrest96
        case hi96 => (conv => lhs; simp only [List.getElem?_toArray, List.getElem?_cons_zero, List.getElem?_cons_succ]); try exact rfl
        case hs96 => kernel_rfl
        case hf96 => kernel_rfl
        case hr96 => kernel_rfl
        case hQ96 => exact fun _ _ _ h => h
        case hS96 => assumption
        case hy96 => refine Or.inl ⟨by rfl, ?_⟩; intro w hSw; (try dsimp only at hSw); go_simp; (try with_reducible rfl)
        simp only [Act.put, List.setIfInBounds_toArray, List.set_cons_zero, List.set_cons_succ]
        refine wpAnyH_take (i := 14) (oi := ?oi97) (v := ?v97) ?hi97 ?hs97 ?hf97 ?hr97 ?hQ97 ?hy97 ?hS97 ?hrest97
        case hi97 => (conv => lhs; simp only [List.getElem?_toArray, List.getElem?_cons_zero, List.getElem?_cons_succ]); try exact rfl
        case hs97 => kernel_rfl
        case hf97 => kernel_rfl
        case hr97 => kernel_rfl
        case hQ97 => exact fun _ _ _ h => h
        case hS97 => assumption
        case hy97 => refine Or.inl ⟨by rfl, ?_⟩; intro w hSw; (try dsimp only at hSw); go_simp; (try with_reducible rfl)
        simp only [Act.put, List.setIfInBounds_toArray, List.set_cons_zero, List.set_cons_succ]
        refine wpAnyH_ready (rs := [15]) (by kernel_rfl) (by simp) ?_
        refine AllReadyH.cons (o := ?oi98) ?hi98 (fun K hK => ?_) AllReadyH.nil
        case hi98 => (conv => lhs; simp only [List.getElem?_toArray, List.getElem?_cons_zero, List.getElem?_cons_succ]); try exact rfl
        go_simp
        go_at_call 60
        refine (l1In_any _ _ _ _).mono ?_
        rintro e w' ⟨rfl, rfl⟩
        refine hK.out _ _ hHeld92 (fun hHeld98 => ?_)
        clear hK K
        refine wpAnyH_take (i := 16) (oi := ?oi99) (v := ?v99) ?hi99 ?hs99 ?hf99 ?hr99 ?hQ99 ?hy99 ?hS99 ?hrest99
        case hi99 => (conv => lhs; simp only [List.getElem?_toArray, List.getElem?_cons_zero, List.getElem?_cons_succ]); try exact rfl
        case hs99 => kernel_rfl
        case hf99 => kernel_rfl
        case hr99 => kernel_rfl
        case hQ99 => exact fun _ _ _ h => h
        case hS99 => assumption
        case hy99 => refine Or.inl ⟨by rfl, ?_⟩; intro w hSw; (try dsimp only at hSw); go_simp; (try with_reducible rfl)
        simp only [Act.put, List.setIfInBounds_toArray, List.set_cons_zero, List.set_cons_succ]
        refine wpAnyH_take (i := 17) (oi := ?oi100) (v := ?v100) ?hi100 ?hs100 ?hf100 ?hr100 ?hQ100 ?hy100 ?hS100 ?hrest100
        case hi100 => (conv => lhs; simp only [List.getElem?_toArray, List.getElem?_cons_zero, List.getElem?_cons_succ]); try exact rfl
        case hs100 => kernel_rfl
        case hf100 => kernel_rfl
        case hr100 => kernel_rfl
        case hQ100 => exact fun _ _ _ h => h
        case hS100 => assumption
        case hy100 => refine Or.inl ⟨by rfl, ?_⟩; intro w hSw; (try dsimp only at hSw); go_simp; (try with_reducible rfl)
        simp only [Act.put, List.setIfInBounds_toArray, List.set_cons_zero, List.set_cons_succ]
        refine wpAnyH_take (i := 18) (oi := ?oi101) (v := ?v101) ?hi101 ?hs101 ?hf101 ?hr101 ?hQ101 ?hy101 ?hS101 ?hrest101
        case hi101 => (conv => lhs; simp only [List.getElem?_toArray, List.getElem?_cons_zero, List.getElem?_cons_succ]); try exact rfl
        case hs101 => kernel_rfl
        case hf101 => kernel_rfl
        case hr101 => kernel_rfl
        case hQ101 => exact fun _ _ _ h => h
        case hS101 => assumption
        case hy101 => refine Or.inl ⟨by rfl, ?_⟩; intro w hSw; (try dsimp only at hSw); go_simp; (try with_reducible rfl)
        simp only [Act.put, List.setIfInBounds_toArray, List.set_cons_zero, List.set_cons_succ]
        refine wpAnyH_take (i := 19) (oi := ?oi102) (v := undef) ?hi102 ?hs102 ?hf102 ?hr102 ?hQ102 ?hy102 ?hS102 ?hrest102
        case hi102 => (conv => lhs; simp only [List.getElem?_toArray, List.getElem?_cons_zero, List.getElem?_cons_succ]); try exact rfl
        case hs102 => kernel_rfl
        case hf102 => kernel_rfl
        case hr102 => kernel_rfl
        case hQ102 => exact fun _ _ _ h => h
        case hS102 => assumption
        case hy102 => exact Or.inr ⟨by rfl, rfl⟩
        simp only [Act.put, List.setIfInBounds_toArray, List.set_cons_zero, List.set_cons_succ]
        refine wpAnyH_take (i := 20) (oi := ?oi103) (v := undef) ?hi103 ?hs103 ?hf103 ?hr103 ?hQ103 ?hy103 ?hS103 ?hrest103
        case hi103 => (conv => lhs; simp only [List.getElem?_toArray, List.getElem?_cons_zero, List.getElem?_cons_succ]); try exact rfl
        case hs103 => kernel_rfl
        case hf103 => kernel_rfl
        case hr103 => kernel_rfl
        case hQ103 => exact fun _ _ _ h => h
        case hS103 => assumption
        case hy103 => exact Or.inr ⟨by rfl, rfl⟩
        simp only [Act.put, List.setIfInBounds_toArray, List.set_cons_zero, List.set_cons_succ]
        refine wpAnyH_take (i := 21) (oi := ?oi104) (v := undef) ?hi104 ?hs104 ?hf104 ?hr104 ?hQ104 ?hy104 ?hS104 ?hrest104
        case hi104 => (conv => lhs; simp only [List.getElem?_toArray, List.getElem?_cons_zero, List.getElem?_cons_succ]); try exact rfl
        case hs104 => kernel_rfl
        case hf104 => kernel_rfl
        case hr104 => kernel_rfl
        case hQ104 => exact fun _ _ _ h => h
        case hS104 => assumption
        case hy104 => exact Or.inr ⟨by rfl, rfl⟩
        simp only [Act.put, List.setIfInBounds_toArray, List.set_cons_zero, List.set_cons_succ]
        refine wpAnyH_take (i := 22) (oi := ?oi105) (v := undef) ?hi105 ?hs105 ?hf105 ?hr105 ?hQ105 ?hy105 ?hS105 ?hrest105
        case hi105 => (conv => lhs; simp only [List.getElem?_toArray, List.getElem?_cons_zero, List.getElem?_cons_succ]); try exact rfl
        case hs105 => kernel_rfl
        case hf105 => kernel_rfl
        case hr105 => kernel_rfl
        case hQ105 => exact fun _ _ _ h => h
        case hS105 => assumption
        case hy105 => exact Or.inr ⟨by rfl, rfl⟩
        simp only [Act.put, List.setIfInBounds_toArray, List.set_cons_zero, List.set_cons_succ]
        refine wpAnyH_take (i := 23) (oi := ?oi106) (v := ?v106) ?hi106 ?hs106 ?hf106 ?hr106 ?hQ106 ?hy106 ?hS106 ?hrest106
        case hi106 => (conv => lhs; simp only [List.getElem?_toArray, List.getElem?_cons_zero, List.getElem?_cons_succ]); try exact rfl
        case hs106 => kernel_rfl
        case hf106 => kernel_rfl
        case hr106 => kernel_rfl
        case hQ106 => exact fun _ _ _ h => h
        case hS106 => assumption
        case hy106 => refine Or.inl ⟨by rfl, ?_⟩; intro w hSw; (try dsimp only at hSw); go_simp; (try with_reducible rfl)
        simp only [Act.put, List.setIfInBounds_toArray, List.set_cons_zero, List.set_cons_succ]
        refine wpAnyH_take (i := 24) (oi := ?oi107) (v := ?v107) ?hi107 ?hs107 ?hf107 ?hr107 ?hQ107 ?hy107 ?hS107 ?hrest107
        case hi107 => (conv => lhs; simp only [List.getElem?_toArray, List.getElem?_cons_zero, List.getElem?_cons_succ]); try exact rfl
        case hs107 => kernel_rfl
        case hf107 => kernel_rfl
        case hr107 => kernel_rfl
        case hQ107 => exact fun _ _ _ h => h
        case hS107 => assumption
        case hy107 => refine Or.inl ⟨by rfl, ?_⟩; intro w hSw; (try dsimp only at hSw); go_simp; (try with_reducible rfl)
        simp only [Act.put, List.setIfInBounds_toArray, List.set_cons_zero, List.set_cons_succ]
        refine wpAnyH_take (i := 25) (oi := ?oi108) (v := undef) ?hi108 ?hs108 ?hf108 ?hr108 ?hQ108 ?hy108 ?hS108 ?hrest108
        case hi108 => (conv => lhs; simp only [List.getElem?_toArray, List.getElem?_cons_zero, List.getElem?_cons_succ]); try exact rfl
        case hs108 => kernel_rfl
        case hf108 => kernel_rfl
        case hr108 => kernel_rfl
        case hQ108 => exact fun _ _ _ h => h
        case hS108 => assumption
        case hy108 => exact Or.inr ⟨by rfl, rfl⟩
        simp only [Act.put, List.setIfInBounds_toArray, List.set_cons_zero, List.set_cons_succ]
        refine wpAnyH_take (i := 26) (oi := ?oi109) (v := undef) ?hi109 ?hs109 ?hf109 ?hr109 ?hQ109 ?hy109 ?hS109 ?hrest109
        case hi109 => (conv => lhs; simp only [List.getElem?_toArray, List.getElem?_cons_zero, List.getElem?_cons_succ]); try exact rfl
        case hs109 => kernel_rfl
        case hf109 => kernel_rfl
        case hr109 => kernel_rfl
        case hQ109 => exact fun _ _ _ h => h
        case hS109 => assumption
        case hy109 => exact Or.inr ⟨by rfl, rfl⟩
        simp only [Act.put, List.setIfInBounds_toArray, List.set_cons_zero, List.set_cons_succ]
        refine wpAnyH_take (i := 27) (oi := ?oi110) (v := undef) ?hi110 ?hs110 ?hf110 ?hr110 ?hQ110 ?hy110 ?hS110 ?hrest110
        case hi110 => (conv => lhs; simp only [List.getElem?_toArray, List.getElem?_cons_zero, List.getElem?_cons_succ]); try exact rfl
        case hs110 => kernel_rfl
        case hf110 => kernel_rfl
        case hr110 => kernel_rfl
        case hQ110 => exact fun _ _ _ h => h
        case hS110 => assumption
        case hy110 => exact Or.inr ⟨by rfl, rfl⟩
        simp only [Act.put, List.setIfInBounds_toArray, List.set_cons_zero, List.set_cons_succ]
        refine wpAnyH_take (i := 28) (oi := ?oi111) (v := undef) ?hi111 ?hs111 ?hf111 ?hr111 ?hQ111 ?hy111 ?hS111 ?hrest111
        case hi111 => (conv => lhs; simp only [List.getElem?_toArray, List.getElem?_cons_zero, List.getElem?_cons_succ]); try exact rfl
        case hs111 => kernel_rfl
        case hf111 => kernel_rfl
        case hr111 => kernel_rfl
        case hQ111 => exact fun _ _ _ h => h
        case hS111 => assumption
        case hy111 => exact Or.inr ⟨by rfl, rfl⟩
        simp only [Act.put, List.setIfInBounds_toArray, List.set_cons_zero, List.set_cons_succ]
        refine wpAnyH_take (i := 29) (oi := ?oi112) (v := undef) ?hi112 ?hs112 ?hf112 ?hr112 ?hQ112 ?hy112 ?hS112 ?hrest112
        case hi112 => (conv => lhs; simp only [List.getElem?_toArray, List.getElem?_cons_zero, List.getElem?_cons_succ]); try exact rfl
        case hs112 => kernel_rfl
        case hf112 => kernel_rfl
        case hr112 => kernel_rfl
        case hQ112 => exact fun _ _ _ h => h
        case hS112 => assumption
        case hy112 => exact Or.inr ⟨by rfl, rfl⟩
        simp only [Act.put, List.setIfInBounds_toArray, List.set_cons_zero, List.set_cons_succ]
        refine wpAnyH_take (i := 30) (oi := ?oi113) (v := undef) ?hi113 ?hs113 ?hf113 ?hr113 ?hQ113 ?hy113 ?hS113 ?hrest113
        case hi113 => (conv => lhs; simp only [List.getElem?_toArray, List.getElem?_cons_zero, List.getElem?_cons_succ]); try exact rfl
        case hs113 => kernel_rfl
        case hf113 => kernel_rfl
        case hr113 => kernel_rfl
        case hQ113 => exact fun _ _ _ h => h
        case hS113 => assumption
        case hy113 => exact Or.inr ⟨by rfl, rfl⟩
        simp only [Act.put, List.setIfInBounds_toArray, List.set_cons_zero, List.set_cons_succ]
        refine wpAnyH_take (i := 31) (oi := ?oi114) (v := undef) ?hi114 ?hs114 ?hf114 ?hr114 ?hQ114 ?hy114 ?hS114 ?hrest114
        case hi114 => (conv => lhs; simp only [List.getElem?_toArray, List.getElem?_cons_zero, List.getElem?_cons_succ]); try exact rfl
        case hs114 => kernel_rfl
        case hf114 => kernel_rfl
        case hr114 => kernel_rfl
        case hQ114 => exact fun _ _ _ h => h
        case hS114 => assumption
        case hy114 => exact Or.inr ⟨by rfl, rfl⟩
        simp only [Act.put, List.setIfInBounds_toArray, List.set_cons_zero, List.set_cons_succ]
        refine wpAnyH_take (i := 32) (oi := ?oi115) (v := undef) ?hi115 ?hs115 ?hf115 ?hr115 ?hQ115 ?hy115 ?hS115 ?hrest115
        case hi115 => (conv => lhs; simp only [List.getElem?_toArray, List.getElem?_cons_zero, List.getElem?_cons_succ]); try exact rfl
        case hs115 => kernel_rfl
        case hf115 => kernel_rfl
        case hr115 => kernel_rfl
        case hQ115 => exact fun _ _ _ h => h
        case hS115 => assumption
        case hy115 => exact Or.inr ⟨by rfl, rfl⟩
        simp only [Act.put, List.setIfInBounds_toArray, List.set_cons_zero, List.set_cons_succ]
        refine wpAnyH_take (i := 33) (oi := ?oi116) (v := undef) ?hi116 ?hs116 ?hf116 ?hr116 ?hQ116 ?hy116 ?hS116 ?hrest116
        case hi116 => (conv => lhs; simp only [List.getElem?_toArray, List.getElem?_cons_zero, List.getElem?_cons_succ]); try exact rfl
        case hs116 => kernel_rfl
        case hf116 => kernel_rfl
        case hr116 => kernel_rfl
        case hQ116 => exact fun _ _ _ h => h
        case hS116 => assumption
        case hy116 => exact Or.inr ⟨by rfl, rfl⟩
        simp only [Act.put, List.setIfInBounds_toArray, List.set_cons_zero, List.set_cons_succ]
        refine wpAnyH_take (i := 34) (oi := ?oi117) (v := undef) ?hi117 ?hs117 ?hf117 ?hr117 ?hQ117 ?hy117 ?hS117 ?hrest117
        case hi117 => (conv => lhs; simp only [List.getElem?_toArray, List.getElem?_cons_zero, List.getElem?_cons_succ]); try exact rfl
        case hs117 => kernel_rfl
        case hf117 => kernel_rfl
        case hr117 => kernel_rfl
        case hQ117 => exact fun _ _ _ h => h
        case hS117 => assumption
        case hy117 => exact Or.inr ⟨by rfl, rfl⟩
        simp only [Act.put, List.setIfInBounds_toArray, List.set_cons_zero, List.set_cons_succ]
        refine wpAnyH_take (i := 35) (oi := ?oi118) (v := undef) ?hi118 ?hs118 ?hf118 ?hr118 ?hQ118 ?hy118 ?hS118 ?hrest118
        case hi118 => (conv => lhs; simp only [List.getElem?_toArray, List.getElem?_cons_zero, List.getElem?_cons_succ]); try exact rfl
        case hs118 => kernel_rfl
        case hf118 => kernel_rfl
        case hr118 => kernel_rfl
        case hQ118 => exact fun _ _ _ h => h
        case hS118 => assumption
        case hy118 => exact Or.inr ⟨by rfl, rfl⟩
        simp only [Act.put, List.setIfInBounds_toArray, List.set_cons_zero, List.set_cons_succ]
        refine wpAnyH_take (i := 36) (oi := ?oi119) (v := undef) ?hi119 ?hs119 ?hf119 ?hr119 ?hQ119 ?hy119 ?hS119 ?hrest119
        case hi119 => (conv => lhs; simp only [List.getElem?_toArray, List.getElem?_cons_zero, List.getElem?_cons_succ]); try exact rfl
        case hs119 => kernel_rfl
        case hf119 => kernel_rfl
        case hr119 => kernel_rfl
        case hQ119 => exact fun _ _ _ h => h
        case hS119 => assumption
        case hy119 => exact Or.inr ⟨by rfl, rfl⟩
        simp only [Act.put, List.setIfInBounds_toArray, List.set_cons_zero, List.set_cons_succ]
        refine wpAnyH_take (i := 37) (oi := ?oi120) (v := undef) ?hi120 ?hs120 ?hf120 ?hr120 ?hQ120 ?hy120 ?hS120 ?hrest120
        case hi120 => (conv => lhs; simp only [List.getElem?_toArray, List.getElem?_cons_zero, List.getElem?_cons_succ]); try exact rfl
        case hs120 => kernel_rfl
        case hf120 => kernel_rfl
        case hr120 => kernel_rfl
        case hQ120 => exact fun _ _ _ h => h
        case hS120 => assumption
        case hy120 => exact Or.inr ⟨by rfl, rfl⟩
        simp only [Act.put, List.setIfInBounds_toArray, List.set_cons_zero, List.set_cons_succ]
        refine wpAnyH_take (i := 38) (oi := ?oi121) (v := undef) ?hi121 ?hs121 ?hf121 ?hr121 ?hQ121 ?hy121 ?hS121 ?hrest121
        case hi121 => (conv => lhs; simp only [List.getElem?_toArray, List.getElem?_cons_zero, List.getElem?_cons_succ]); try exact rfl
        case hs121 => kernel_rfl
        case hf121 => kernel_rfl
        case hr121 => kernel_rfl
        case hQ121 => exact fun _ _ _ h => h
        case hS121 => assumption
        case hy121 => exact Or.inr ⟨by rfl, rfl⟩
        simp only [Act.put, List.setIfInBounds_toArray, List.set_cons_zero, List.set_cons_succ]
        refine wpAnyH_take (i := 39) (oi := ?oi122) (v := undef) ?hi122 ?hs122 ?hf122 ?hr122 ?hQ122 ?hy122 ?hS122 ?hrest122
        case hi122 => (conv => lhs; simp only [List.getElem?_toArray, List.getElem?_cons_zero, List.getElem?_cons_succ]); try exact rfl
        case hs122 => kernel_rfl
        case hf122 => kernel_rfl
        case hr122 => kernel_rfl
        case hQ122 => exact fun _ _ _ h => h
        case hS122 => assumption
        case hy122 => exact Or.inr ⟨by rfl, rfl⟩
        simp only [Act.put, List.setIfInBounds_toArray, List.set_cons_zero, List.set_cons_succ]
        refine wpAnyH_take (i := 40) (oi := ?oi123) (v := ?v123) ?hi123 ?hs123 ?hf123 ?hr123 ?hQ123 ?hy123 ?hS123 ?hrest123
        case hi123 => (conv => lhs; simp only [List.getElem?_toArray, List.getElem?_cons_zero, List.getElem?_cons_succ]); try exact rfl
        case hs123 => kernel_rfl
        case hf123 => kernel_rfl
        case hr123 => kernel_rfl
        case hQ123 => exact fun _ _ _ h => h
        case hS123 => assumption
        case hy123 => refine Or.inl ⟨by rfl, ?_⟩; intro w hSw; (try dsimp only at hSw); go_simp; (try with_reducible rfl)
        simp only [Act.put, List.setIfInBounds_toArray, List.set_cons_zero, List.set_cons_succ]
        refine wpAnyH_done (by kernel_rfl) ?_ _
        go_wp2
        go_ret
        exact ⟨ret_bool Hf.out.symm, belN (belN b1.drew hb7) hb8⟩
      rcases hd : inI ed 1 100000 with _ | _
      · have Hf := Lib.hid (Bad.out (by unfold entOkB; rw [hd]; simp))
        go_wp2_with fail
        refine wp_region_held_drew (S := fun w' => w'.cell? ⟨wr.heap.size, 0, none⟩ = some (.int .i64 eh) ∧ w'.cell? ⟨wr.heap.size, 1, none⟩ = some (.int .i64 ei) ∧ w'.cell? ⟨wr.heap.size, 2, none⟩ = some (.string es) ∧ w'.cell? ⟨wr.heap.size, 3, none⟩ = some (.int .i64 ed)) (by kernel_rfl) ⟨y0, y1, y2, y3⟩ (fun hHeld => ?_)
        refine wpAnyH_take (i := 0) (oi := ?oi124) (v := ?v124) ?hi124 ?hs124 ?hf124 ?hr124 ?hQ124 ?hy124 ?hS124 ?hrest124
        case hi124 => (conv => lhs; simp only [List.getElem?_toArray, List.getElem?_cons_zero]); try exact rfl
        case hs124 => kernel_rfl
        case hf124 => kernel_rfl
        case hr124 => kernel_rfl
        case hQ124 => exact fun _ _ _ h => h
        case hS124 => assumption
        case hy124 => refine Or.inl ⟨by rfl, ?_⟩; intro w hSw; (try dsimp only at hSw); go_simp; (try with_reducible rfl)
        simp only [Act.put, List.setIfInBounds_toArray, List.set_cons_zero, List.set_cons_succ]
        refine wpAnyH_take (i := 1) (oi := ?oi125) (v := ?v125) ?hi125 ?hs125 ?hf125 ?hr125 ?hQ125 ?hy125 ?hS125 ?hrest125
        case hi125 => (conv => lhs; simp only [List.getElem?_toArray, List.getElem?_cons_zero, List.getElem?_cons_succ]); try exact rfl
        case hs125 => kernel_rfl
        case hf125 => kernel_rfl
        case hr125 => kernel_rfl
        case hQ125 => exact fun _ _ _ h => h
        case hS125 => assumption
        case hy125 => refine Or.inl ⟨by rfl, ?_⟩; intro w hSw; (try dsimp only at hSw); go_simp; (try with_reducible rfl)
        simp only [Act.put, List.setIfInBounds_toArray, List.set_cons_zero, List.set_cons_succ]
        refine wpAnyH_ready (rs := [2]) (by kernel_rfl) (by simp) ?_
        refine AllReadyH.cons (o := ?oi126) ?hi126 (fun K hK => ?_) AllReadyH.nil
        case hi126 => (conv => lhs; simp only [List.getElem?_toArray, List.getElem?_cons_zero, List.getElem?_cons_succ]); try exact rfl
        go_simp
        go_at_call 61
        refine (nameOk_spec es hszk _).mono ?_
        rintro e w7 ⟨rfl, hb7⟩
        refine hK.out _ _ (by obtain ⟨a0, a1, a2, a3⟩ := hHeld; exact ⟨keep1 hb7 a0 (Nat.le_refl _), keep1 hb7 a1 (Nat.le_refl _), keep1 hb7 a2 (Nat.le_refl _), keep1 hb7 a3 (Nat.le_refl _)⟩) (fun hHeld126 => ?_)
        clear hK K
        clear hHeld
        refine wpAnyH_take (i := 3) (oi := ?oi127) (v := ?v127) ?hi127 ?hs127 ?hf127 ?hr127 ?hQ127 ?hy127 ?hS127 ?hrest127
        case hi127 => (conv => lhs; simp only [List.getElem?_toArray, List.getElem?_cons_zero, List.getElem?_cons_succ]); try exact rfl
        case hs127 => kernel_rfl
        case hf127 => kernel_rfl
        case hr127 => kernel_rfl
        case hQ127 => exact fun _ _ _ h => h
        case hS127 => assumption
        case hy127 => refine Or.inl ⟨by rfl, ?_⟩; intro w hSw; (try dsimp only at hSw); go_simp; (try with_reducible rfl)
        simp only [Act.put, List.setIfInBounds_toArray, List.set_cons_zero, List.set_cons_succ]
        refine wpAnyH_take (i := 4) (oi := ?oi128) (v := ?v128) ?hi128 ?hs128 ?hf128 ?hr128 ?hQ128 ?hy128 ?hS128 ?hrest128
        case hi128 => (conv => lhs; simp only [List.getElem?_toArray, List.getElem?_cons_zero, List.getElem?_cons_succ]); try exact rfl
        case hs128 => kernel_rfl
        case hf128 => kernel_rfl
        case hr128 => kernel_rfl
        case hQ128 => exact fun _ _ _ h => h
        case hS128 => assumption
        case hy128 => refine Or.inl ⟨by rfl, ?_⟩; intro w hSw; (try dsimp only at hSw); go_simp; (try with_reducible rfl)
        simp only [Act.put, List.setIfInBounds_toArray, List.set_cons_zero, List.set_cons_succ]
        refine wpAnyH_take (i := 5) (oi := ?oi129) (v := ?v129) ?hi129 ?hs129 ?hf129 ?hr129 ?hQ129 ?hy129 ?hS129 ?hrest129
        case hi129 => (conv => lhs; simp only [List.getElem?_toArray, List.getElem?_cons_zero, List.getElem?_cons_succ]); try exact rfl
        case hs129 => kernel_rfl
        case hf129 => kernel_rfl
        case hr129 => kernel_rfl
        case hQ129 => exact fun _ _ _ h => h
        case hS129 => assumption
        case hy129 => refine Or.inl ⟨by rfl, ?_⟩; intro w hSw; (try dsimp only at hSw); go_simp; (try with_reducible rfl)
        simp only [Act.put, List.setIfInBounds_toArray, List.set_cons_zero, List.set_cons_succ]
        refine wpAnyH_take (i := 6) (oi := ?oi130) (v := ?v130) ?hi130 ?hs130 ?hf130 ?hr130 ?hQ130 ?hy130 ?hS130 ?hrest130
        case hi130 => (conv => lhs; simp only [List.getElem?_toArray, List.getElem?_cons_zero, List.getElem?_cons_succ]); try exact rfl
        case hs130 => kernel_rfl
        case hf130 => kernel_rfl
        case hr130 => kernel_rfl
        case hQ130 => exact fun _ _ _ h => h
        case hS130 => assumption
        case hy130 => refine Or.inl ⟨by rfl, ?_⟩; intro w hSw; (try dsimp only at hSw); go_simp; (try with_reducible rfl)
        simp only [Act.put, List.setIfInBounds_toArray, List.set_cons_zero, List.set_cons_succ]
        refine wpAnyH_take (i := 7) (oi := ?oi131) (v := ?v131) ?hi131 ?hs131 ?hf131 ?hr131 ?hQ131 ?hy131 ?hS131 ?hrest131
        case hi131 => (conv => lhs; simp only [List.getElem?_toArray, List.getElem?_cons_zero, List.getElem?_cons_succ]); try exact rfl
        case hs131 => kernel_rfl
        case hf131 => kernel_rfl
        case hr131 => kernel_rfl
        case hQ131 => exact fun _ _ _ h => h
        case hS131 => assumption
        case hy131 => refine Or.inl ⟨by rfl, ?_⟩; intro w hSw; (try dsimp only at hSw); go_simp; (try with_reducible rfl)
        simp only [Act.put, List.setIfInBounds_toArray, List.set_cons_zero, List.set_cons_succ]
        refine wpAnyH_take (i := 8) (oi := ?oi132) (v := ?v132) ?hi132 ?hs132 ?hf132 ?hr132 ?hQ132 ?hy132 ?hS132 ?hrest132
        case hi132 => (conv => lhs; simp only [List.getElem?_toArray, List.getElem?_cons_zero, List.getElem?_cons_succ]); try exact rfl
        case hs132 => kernel_rfl
        case hf132 => kernel_rfl
        case hr132 => kernel_rfl
        case hQ132 => exact fun _ _ _ h => h
        case hS132 => assumption
        case hy132 => refine Or.inl ⟨by rfl, ?_⟩; intro w hSw; (try dsimp only at hSw); go_simp; (try with_reducible rfl)
        simp only [Act.put, List.setIfInBounds_toArray, List.set_cons_zero, List.set_cons_succ]
        refine wpAnyH_ready (rs := [9]) (by kernel_rfl) (by simp) ?_
        refine AllReadyH.cons (o := ?oi133) ?hi133 (fun K hK => ?_) AllReadyH.nil
        case hi133 => (conv => lhs; simp only [List.getElem?_toArray, List.getElem?_cons_zero, List.getElem?_cons_succ]); try exact rfl
        go_simp
        go_at_call 62
        refine (hashOf_spec es hszk _).mono ?_
        rintro e w8 ⟨rfl, hb8⟩
        refine hK.out _ _ (by obtain ⟨a0, a1, a2, a3⟩ := hHeld126; exact ⟨keep1 hb8 a0 (Nat.le_refl _), keep1 hb8 a1 (Nat.le_refl _), keep1 hb8 a2 (Nat.le_refl _), keep1 hb8 a3 (Nat.le_refl _)⟩) (fun hHeld133 => ?_)
        clear hK K
        clear hHeld126
        refine wpAnyH_take (i := 10) (oi := ?oi134) (v := ?v134) ?hi134 ?hs134 ?hf134 ?hr134 ?hQ134 ?hy134 ?hS134 ?hrest134
        case hi134 => (conv => lhs; simp only [List.getElem?_toArray, List.getElem?_cons_zero, List.getElem?_cons_succ]); try exact rfl
        case hs134 => kernel_rfl
        case hf134 => kernel_rfl
        case hr134 => kernel_rfl
        case hQ134 => exact fun _ _ _ h => h
        case hS134 => assumption
        case hy134 => refine Or.inl ⟨by rfl, ?_⟩; intro w hSw; (try dsimp only at hSw); go_simp; (try with_reducible rfl)
        simp only [Act.put, List.setIfInBounds_toArray, List.set_cons_zero, List.set_cons_succ]
        refine wpAnyH_take (i := 11) (oi := ?oi135) (v := ?v135) ?hi135 ?hs135 ?hf135 ?hr135 ?hQ135 ?hy135 ?hS135 ?hrest135
        case hi135 => (conv => lhs; simp only [List.getElem?_toArray, List.getElem?_cons_zero, List.getElem?_cons_succ]); try exact rfl
        case hs135 => kernel_rfl
        case hf135 => kernel_rfl
        case hr135 => kernel_rfl
        case hQ135 => exact fun _ _ _ h => h
        case hS135 => assumption
        case hy135 => refine Or.inl ⟨by rfl, ?_⟩; intro w hSw; (try dsimp only at hSw); go_simp; (try with_reducible rfl)
        simp only [Act.put, List.setIfInBounds_toArray, List.set_cons_zero, List.set_cons_succ]
        refine wpAnyH_take (i := 12) (oi := ?oi136) (v := ?v136) ?hi136 ?hs136 ?hf136 ?hr136 ?hQ136 ?hy136 ?hS136 ?hrest136
        case hi136 => (conv => lhs; simp only [List.getElem?_toArray, List.getElem?_cons_zero, List.getElem?_cons_succ]); try exact rfl
        case hs136 => kernel_rfl
        case hf136 => kernel_rfl
        case hr136 => kernel_rfl
        case hQ136 => exact fun _ _ _ h => h
        case hS136 => assumption
        case hy136 => refine Or.inl ⟨by rfl, ?_⟩; intro w hSw; (try dsimp only at hSw); go_simp; (try with_reducible rfl)
        simp only [Act.put, List.setIfInBounds_toArray, List.set_cons_zero, List.set_cons_succ]
        refine wpAnyH_take (i := 13) (oi := ?oi137) (v := ?v137) ?hi137 ?hs137 ?hf137 ?hr137 ?hQ137 ?hy137 ?hS137 ?hrest137
        case hi137 => (conv => lhs; simp only [List.getElem?_toArray, List.getElem?_cons_zero, List.getElem?_cons_succ]); try exact rfl
        case hs137 => kernel_rfl
        case hf137 => kernel_rfl
        case hr137 => kernel_rfl
        case hQ137 => exact fun _ _ _ h => h
        case hS137 => assumption
        case hy137 => refine Or.inl ⟨by rfl, ?_⟩; intro w hSw; (try dsimp only at hSw); go_simp; (try with_reducible rfl)
        simp only [Act.put, List.setIfInBounds_toArray, List.set_cons_zero, List.set_cons_succ]
        refine wpAnyH_take (i := 14) (oi := ?oi138) (v := ?v138) ?hi138 ?hs138 ?hf138 ?hr138 ?hQ138 ?hy138 ?hS138 ?hrest138
        case hi138 => (conv => lhs; simp only [List.getElem?_toArray, List.getElem?_cons_zero, List.getElem?_cons_succ]); try exact rfl
        case hs138 => kernel_rfl
        case hf138 => kernel_rfl
        case hr138 => kernel_rfl
        case hQ138 => exact fun _ _ _ h => h
        case hS138 => assumption
        case hy138 => refine Or.inl ⟨by rfl, ?_⟩; intro w hSw; (try dsimp only at hSw); go_simp; (try with_reducible rfl)
        simp only [Act.put, List.setIfInBounds_toArray, List.set_cons_zero, List.set_cons_succ]
        refine wpAnyH_ready (rs := [15]) (by kernel_rfl) (by simp) ?_
        refine AllReadyH.cons (o := ?oi139) ?hi139 (fun K hK => ?_) AllReadyH.nil
        case hi139 => (conv => lhs; simp only [List.getElem?_toArray, List.getElem?_cons_zero, List.getElem?_cons_succ]); try exact rfl
        go_simp
        go_at_call 60
        refine (l1In_any _ _ _ _).mono ?_
        rintro e w' ⟨rfl, rfl⟩
        refine hK.out _ _ hHeld133 (fun hHeld139 => ?_)
        clear hK K
        refine wpAnyH_take (i := 16) (oi := ?oi140) (v := ?v140) ?hi140 ?hs140 ?hf140 ?hr140 ?hQ140 ?hy140 ?hS140 ?hrest140
        case hi140 => (conv => lhs; simp only [List.getElem?_toArray, List.getElem?_cons_zero, List.getElem?_cons_succ]); try exact rfl
        case hs140 => kernel_rfl
        case hf140 => kernel_rfl
        case hr140 => kernel_rfl
        case hQ140 => exact fun _ _ _ h => h
        case hS140 => assumption
        case hy140 => refine Or.inl ⟨by rfl, ?_⟩; intro w hSw; (try dsimp only at hSw); go_simp; (try with_reducible rfl)
        simp only [Act.put, List.setIfInBounds_toArray, List.set_cons_zero, List.set_cons_succ]
        refine wpAnyH_take (i := 17) (oi := ?oi141) (v := ?v141) ?hi141 ?hs141 ?hf141 ?hr141 ?hQ141 ?hy141 ?hS141 ?hrest141
        case hi141 => (conv => lhs; simp only [List.getElem?_toArray, List.getElem?_cons_zero, List.getElem?_cons_succ]); try exact rfl
        case hs141 => kernel_rfl
        case hf141 => kernel_rfl
        case hr141 => kernel_rfl
        case hQ141 => exact fun _ _ _ h => h
        case hS141 => assumption
        case hy141 => refine Or.inl ⟨by rfl, ?_⟩; intro w hSw; (try dsimp only at hSw); go_simp; (try with_reducible rfl)
        simp only [Act.put, List.setIfInBounds_toArray, List.set_cons_zero, List.set_cons_succ]
        refine wpAnyH_take (i := 18) (oi := ?oi142) (v := ?v142) ?hi142 ?hs142 ?hf142 ?hr142 ?hQ142 ?hy142 ?hS142 ?hrest142
        case hi142 => (conv => lhs; simp only [List.getElem?_toArray, List.getElem?_cons_zero, List.getElem?_cons_succ]); try exact rfl
        case hs142 => kernel_rfl
        case hf142 => kernel_rfl
        case hr142 => kernel_rfl
        case hQ142 => exact fun _ _ _ h => h
        case hS142 => assumption
        case hy142 => refine Or.inl ⟨by rfl, ?_⟩; intro w hSw; (try dsimp only at hSw); go_simp; (try with_reducible rfl)
        simp only [Act.put, List.setIfInBounds_toArray, List.set_cons_zero, List.set_cons_succ]
        refine wpAnyH_take (i := 19) (oi := ?oi143) (v := ?v143) ?hi143 ?hs143 ?hf143 ?hr143 ?hQ143 ?hy143 ?hS143 ?hrest143
        case hi143 => (conv => lhs; simp only [List.getElem?_toArray, List.getElem?_cons_zero, List.getElem?_cons_succ]); try exact rfl
        case hs143 => kernel_rfl
        case hf143 => kernel_rfl
        case hr143 => kernel_rfl
        case hQ143 => exact fun _ _ _ h => h
        case hS143 => assumption
        case hy143 => refine Or.inl ⟨by rfl, ?_⟩; intro w hSw; (try dsimp only at hSw); go_simp; (try with_reducible rfl)
        simp only [Act.put, List.setIfInBounds_toArray, List.set_cons_zero, List.set_cons_succ]
        refine wpAnyH_take (i := 20) (oi := ?oi144) (v := ?v144) ?hi144 ?hs144 ?hf144 ?hr144 ?hQ144 ?hy144 ?hS144 ?hrest144
        case hi144 => (conv => lhs; simp only [List.getElem?_toArray, List.getElem?_cons_zero, List.getElem?_cons_succ]); try exact rfl
        case hs144 => kernel_rfl
        case hf144 => kernel_rfl
        case hr144 => kernel_rfl
        case hQ144 => exact fun _ _ _ h => h
        case hS144 => assumption
        case hy144 => refine Or.inl ⟨by rfl, ?_⟩; intro w hSw; (try dsimp only at hSw); go_simp; (try with_reducible rfl)
        simp only [Act.put, List.setIfInBounds_toArray, List.set_cons_zero, List.set_cons_succ]
        refine wpAnyH_ready (rs := [21]) (by kernel_rfl) (by simp) ?_
        refine AllReadyH.cons (o := ?oi145) ?hi145 (fun K hK => ?_) AllReadyH.nil
        case hi145 => (conv => lhs; simp only [List.getElem?_toArray, List.getElem?_cons_zero, List.getElem?_cons_succ]); try exact rfl
        go_simp
        go_at_call 60
        refine (l1In_any _ _ _ _).mono ?_
        rintro e w' ⟨rfl, rfl⟩
        refine hK.out _ _ hHeld139 (fun hHeld145 => ?_)
        clear hK K
        refine wpAnyH_take (i := 22) (oi := ?oi146) (v := ?v146) ?hi146 ?hs146 ?hf146 ?hr146 ?hQ146 ?hy146 ?hS146 ?hrest146
        case hi146 => (conv => lhs; simp only [List.getElem?_toArray, List.getElem?_cons_zero, List.getElem?_cons_succ]); try exact rfl
        case hs146 => kernel_rfl
        case hf146 => kernel_rfl
        case hr146 => kernel_rfl
        case hQ146 => exact fun _ _ _ h => h
        case hS146 => assumption
        case hy146 => refine Or.inl ⟨by rfl, ?_⟩; intro w hSw; (try dsimp only at hSw); go_simp; (try with_reducible rfl)
        simp only [Act.put, List.setIfInBounds_toArray, List.set_cons_zero, List.set_cons_succ]
        refine wpAnyH_take (i := 23) (oi := ?oi147) (v := ?v147) ?hi147 ?hs147 ?hf147 ?hr147 ?hQ147 ?hy147 ?hS147 ?hrest147
        case hi147 => (conv => lhs; simp only [List.getElem?_toArray, List.getElem?_cons_zero, List.getElem?_cons_succ]); try exact rfl
        case hs147 => kernel_rfl
        case hf147 => kernel_rfl
        case hr147 => kernel_rfl
        case hQ147 => exact fun _ _ _ h => h
        case hS147 => assumption
        case hy147 => refine Or.inl ⟨by rfl, ?_⟩; intro w hSw; (try dsimp only at hSw); go_simp; (try with_reducible rfl)
        simp only [Act.put, List.setIfInBounds_toArray, List.set_cons_zero, List.set_cons_succ]
        refine wpAnyH_take (i := 24) (oi := ?oi148) (v := ?v148) ?hi148 ?hs148 ?hf148 ?hr148 ?hQ148 ?hy148 ?hS148 ?hrest148
        case hi148 => (conv => lhs; simp only [List.getElem?_toArray, List.getElem?_cons_zero, List.getElem?_cons_succ]); try exact rfl
        case hs148 => kernel_rfl
        case hf148 => kernel_rfl
        case hr148 => kernel_rfl
        case hQ148 => exact fun _ _ _ h => h
        case hS148 => assumption
        case hy148 => refine Or.inl ⟨by rfl, ?_⟩; intro w hSw; (try dsimp only at hSw); go_simp; (try with_reducible rfl)
        simp only [Act.put, List.setIfInBounds_toArray, List.set_cons_zero, List.set_cons_succ]
        refine wpAnyH_take (i := 25) (oi := ?oi149) (v := undef) ?hi149 ?hs149 ?hf149 ?hr149 ?hQ149 ?hy149 ?hS149 ?hrest149
        case hi149 => (conv => lhs; simp only [List.getElem?_toArray, List.getElem?_cons_zero, List.getElem?_cons_succ]); try exact rfl
        case hs149 => kernel_rfl
        case hf149 => kernel_rfl
        case hr149 => kernel_rfl
        case hQ149 => exact fun _ _ _ h => h
        case hS149 => assumption
        case hy149 => exact Or.inr ⟨by rfl, rfl⟩
        simp only [Act.put, List.setIfInBounds_toArray, List.set_cons_zero, List.set_cons_succ]
        refine wpAnyH_take (i := 26) (oi := ?oi150) (v := undef) ?hi150 ?hs150 ?hf150 ?hr150 ?hQ150 ?hy150 ?hS150 ?hrest150
        case hi150 => (conv => lhs; simp only [List.getElem?_toArray, List.getElem?_cons_zero, List.getElem?_cons_succ]); try exact rfl
        case hs150 => kernel_rfl
        case hf150 => kernel_rfl
        case hr150 => kernel_rfl
        case hQ150 => exact fun _ _ _ h => h
        case hS150 => assumption
        case hy150 => exact Or.inr ⟨by rfl, rfl⟩
        simp only [Act.put, List.setIfInBounds_toArray, List.set_cons_zero, List.set_cons_succ]
        refine wpAnyH_take (i := 27) (oi := ?oi151) (v := undef) ?hi151 ?hs151 ?hf151 ?hr151 ?hQ151 ?hy151 ?hS151 ?hrest151
        case hi151 => (conv => lhs; simp only [List.getElem?_toArray, List.getElem?_cons_zero, List.getElem?_cons_succ]); try exact rfl
        case hs151 => kernel_rfl
        case hf151 => kernel_rfl
        case hr151 => kernel_rfl
        case hQ151 => exact fun _ _ _ h => h
        case hS151 => assumption
        case hy151 => exact Or.inr ⟨by rfl, rfl⟩
        simp only [Act.put, List.setIfInBounds_toArray, List.set_cons_zero, List.set_cons_succ]
        refine wpAnyH_take (i := 28) (oi := ?oi152) (v := undef) ?hi152 ?hs152 ?hf152 ?hr152 ?hQ152 ?hy152 ?hS152 ?hrest152
        case hi152 => (conv => lhs; simp only [List.getElem?_toArray, List.getElem?_cons_zero, List.getElem?_cons_succ]); try exact rfl
        case hs152 => kernel_rfl
        case hf152 => kernel_rfl
        case hr152 => kernel_rfl
        case hQ152 => exact fun _ _ _ h => h
        case hS152 => assumption
        case hy152 => exact Or.inr ⟨by rfl, rfl⟩
        simp only [Act.put, List.setIfInBounds_toArray, List.set_cons_zero, List.set_cons_succ]
        refine wpAnyH_take (i := 29) (oi := ?oi153) (v := undef) ?hi153 ?hs153 ?hf153 ?hr153 ?hQ153 ?hy153 ?hS153 ?hrest153
        case hi153 => (conv => lhs; simp only [List.getElem?_toArray, List.getElem?_cons_zero, List.getElem?_cons_succ]); try exact rfl
        case hs153 => kernel_rfl
        case hf153 => kernel_rfl
        case hr153 => kernel_rfl
        case hQ153 => exact fun _ _ _ h => h
        case hS153 => assumption
        case hy153 => exact Or.inr ⟨by rfl, rfl⟩
        simp only [Act.put, List.setIfInBounds_toArray, List.set_cons_zero, List.set_cons_succ]
        refine wpAnyH_take (i := 30) (oi := ?oi154) (v := undef) ?hi154 ?hs154 ?hf154 ?hr154 ?hQ154 ?hy154 ?hS154 ?hrest154
        case hi154 => (conv => lhs; simp only [List.getElem?_toArray, List.getElem?_cons_zero, List.getElem?_cons_succ]); try exact rfl
        case hs154 => kernel_rfl
        case hf154 => kernel_rfl
        case hr154 => kernel_rfl
        case hQ154 => exact fun _ _ _ h => h
        case hS154 => assumption
        case hy154 => exact Or.inr ⟨by rfl, rfl⟩
        simp only [Act.put, List.setIfInBounds_toArray, List.set_cons_zero, List.set_cons_succ]
        refine wpAnyH_take (i := 31) (oi := ?oi155) (v := undef) ?hi155 ?hs155 ?hf155 ?hr155 ?hQ155 ?hy155 ?hS155 ?hrest155
        case hi155 => (conv => lhs; simp only [List.getElem?_toArray, List.getElem?_cons_zero, List.getElem?_cons_succ]); try exact rfl
        case hs155 => kernel_rfl
        case hf155 => kernel_rfl
        case hr155 => kernel_rfl
        case hQ155 => exact fun _ _ _ h => h
        case hS155 => assumption
        case hy155 => exact Or.inr ⟨by rfl, rfl⟩
        simp only [Act.put, List.setIfInBounds_toArray, List.set_cons_zero, List.set_cons_succ]
        refine wpAnyH_take (i := 32) (oi := ?oi156) (v := undef) ?hi156 ?hs156 ?hf156 ?hr156 ?hQ156 ?hy156 ?hS156 ?hrest156
        case hi156 => (conv => lhs; simp only [List.getElem?_toArray, List.getElem?_cons_zero, List.getElem?_cons_succ]); try exact rfl
        case hs156 => kernel_rfl
        case hf156 => kernel_rfl
        case hr156 => kernel_rfl
        case hQ156 => exact fun _ _ _ h => h
        case hS156 => assumption
        case hy156 => exact Or.inr ⟨by rfl, rfl⟩
        simp only [Act.put, List.setIfInBounds_toArray, List.set_cons_zero, List.set_cons_succ]
        refine wpAnyH_take (i := 33) (oi := ?oi157) (v := undef) ?hi157 ?hs157 ?hf157 ?hr157 ?hQ157 ?hy157 ?hS157 ?hrest157
        case hi157 => (conv => lhs; simp only [List.getElem?_toArray, List.getElem?_cons_zero, List.getElem?_cons_succ]); try exact rfl
        case hs157 => kernel_rfl
        case hf157 => kernel_rfl
        case hr157 => kernel_rfl
        case hQ157 => exact fun _ _ _ h => h
        case hS157 => assumption
        case hy157 => exact Or.inr ⟨by rfl, rfl⟩
        simp only [Act.put, List.setIfInBounds_toArray, List.set_cons_zero, List.set_cons_succ]
        refine wpAnyH_take (i := 34) (oi := ?oi158) (v := undef) ?hi158 ?hs158 ?hf158 ?hr158 ?hQ158 ?hy158 ?hS158 ?hrest158
        case hi158 => (conv => lhs; simp only [List.getElem?_toArray, List.getElem?_cons_zero, List.getElem?_cons_succ]); try exact rfl
        case hs158 => kernel_rfl
        case hf158 => kernel_rfl
        case hr158 => kernel_rfl
        case hQ158 => exact fun _ _ _ h => h
        case hS158 => assumption
        case hy158 => exact Or.inr ⟨by rfl, rfl⟩
        simp only [Act.put, List.setIfInBounds_toArray, List.set_cons_zero, List.set_cons_succ]
        refine wpAnyH_take (i := 35) (oi := ?oi159) (v := undef) ?hi159 ?hs159 ?hf159 ?hr159 ?hQ159 ?hy159 ?hS159 ?hrest159
        case hi159 => (conv => lhs; simp only [List.getElem?_toArray, List.getElem?_cons_zero, List.getElem?_cons_succ]); try exact rfl
        case hs159 => kernel_rfl
        case hf159 => kernel_rfl
        case hr159 => kernel_rfl
        case hQ159 => exact fun _ _ _ h => h
        case hS159 => assumption
        case hy159 => exact Or.inr ⟨by rfl, rfl⟩
        simp only [Act.put, List.setIfInBounds_toArray, List.set_cons_zero, List.set_cons_succ]
        refine wpAnyH_take (i := 36) (oi := ?oi160) (v := undef) ?hi160 ?hs160 ?hf160 ?hr160 ?hQ160 ?hy160 ?hS160 ?hrest160
        case hi160 => (conv => lhs; simp only [List.getElem?_toArray, List.getElem?_cons_zero, List.getElem?_cons_succ]); try exact rfl
        case hs160 => kernel_rfl
        case hf160 => kernel_rfl
        case hr160 => kernel_rfl
        case hQ160 => exact fun _ _ _ h => h
        case hS160 => assumption
        case hy160 => exact Or.inr ⟨by rfl, rfl⟩
        simp only [Act.put, List.setIfInBounds_toArray, List.set_cons_zero, List.set_cons_succ]
        refine wpAnyH_take (i := 37) (oi := ?oi161) (v := undef) ?hi161 ?hs161 ?hf161 ?hr161 ?hQ161 ?hy161 ?hS161 ?hrest161
        case hi161 => (conv => lhs; simp only [List.getElem?_toArray, List.getElem?_cons_zero, List.getElem?_cons_succ]); try exact rfl
        case hs161 => kernel_rfl
        case hf161 => kernel_rfl
        case hr161 => kernel_rfl
        case hQ161 => exact fun _ _ _ h => h
        case hS161 => assumption
        case hy161 => exact Or.inr ⟨by rfl, rfl⟩
        simp only [Act.put, List.setIfInBounds_toArray, List.set_cons_zero, List.set_cons_succ]
        refine wpAnyH_take (i := 38) (oi := ?oi162) (v := undef) ?hi162 ?hs162 ?hf162 ?hr162 ?hQ162 ?hy162 ?hS162 ?hrest162
        case hi162 => (conv => lhs; simp only [List.getElem?_toArray, List.getElem?_cons_zero, List.getElem?_cons_succ]); try exact rfl
        case hs162 => kernel_rfl
        case hf162 => kernel_rfl
        case hr162 => kernel_rfl
        case hQ162 => exact fun _ _ _ h => h
        case hS162 => assumption
        case hy162 => exact Or.inr ⟨by rfl, rfl⟩
        simp only [Act.put, List.setIfInBounds_toArray, List.set_cons_zero, List.set_cons_succ]
        refine wpAnyH_take (i := 39) (oi := ?oi163) (v := undef) ?hi163 ?hs163 ?hf163 ?hr163 ?hQ163 ?hy163 ?hS163 ?hrest163
        case hi163 => (conv => lhs; simp only [List.getElem?_toArray, List.getElem?_cons_zero, List.getElem?_cons_succ]); try exact rfl
        case hs163 => kernel_rfl
        case hf163 => kernel_rfl
        case hr163 => kernel_rfl
        case hQ163 => exact fun _ _ _ h => h
        case hS163 => assumption
        case hy163 => exact Or.inr ⟨by rfl, rfl⟩
        simp only [Act.put, List.setIfInBounds_toArray, List.set_cons_zero, List.set_cons_succ]
        refine wpAnyH_take (i := 40) (oi := ?oi164) (v := ?v164) ?hi164 ?hs164 ?hf164 ?hr164 ?hQ164 ?hy164 ?hS164 ?hrest164
        case hi164 => (conv => lhs; simp only [List.getElem?_toArray, List.getElem?_cons_zero, List.getElem?_cons_succ]); try exact rfl
        case hs164 => kernel_rfl
        case hf164 => kernel_rfl
        case hr164 => kernel_rfl
        case hQ164 => exact fun _ _ _ h => h
        case hS164 => assumption
        case hy164 => refine Or.inl ⟨by rfl, ?_⟩; intro w hSw; (try dsimp only at hSw); go_simp; (try with_reducible rfl)
        simp only [Act.put, List.setIfInBounds_toArray, List.set_cons_zero, List.set_cons_succ]
        refine wpAnyH_done (by kernel_rfl) ?_ _
        go_wp2
        go_ret
        exact ⟨ret_bool Hf.out.symm, belN (belN b1.drew hb7) hb8⟩
      have Hok := Lib.hid (show entOkB ⟨eh, ei, es, ed⟩ = true by unfold entOkB; rw [hnm, hhe.out, hx, hd]; rfl)
      have Hnm := Lib.hid hnm
      rcases Nat.eq_zero_or_pos k with hk0 | hk0
      · have hI0 : decide (0 < I) = false := by have := HI.out; simp; omega
        have Hgd := Lib.hid (show GoodAt ds k from ⟨hkx, by rw [He.out]; exact Hok.out, fun h => absurd h (by omega), fun j hj => absurd hj (by omega)⟩)
        have Hk0 := Lib.hid hk0
        clear hk0
        go_wp2_with fail
        refine wp_region_held_drew (S := fun w' => w'.cell? ⟨wr.heap.size, 0, none⟩ = some (.int .i64 eh) ∧ w'.cell? ⟨wr.heap.size, 1, none⟩ = some (.int .i64 ei) ∧ w'.cell? ⟨wr.heap.size, 2, none⟩ = some (.string es) ∧ w'.cell? ⟨wr.heap.size, 3, none⟩ = some (.int .i64 ed)) (by kernel_rfl) ⟨y0, y1, y2, y3⟩ (fun hHeld => ?_)
        refine wpAnyH_take (i := 0) (oi := ?oi165) (v := ?v165) ?hi165 ?hs165 ?hf165 ?hr165 ?hQ165 ?hy165 ?hS165 ?hrest165
        case hi165 => (conv => lhs; simp only [List.getElem?_toArray, List.getElem?_cons_zero]); try exact rfl
        case hs165 => kernel_rfl
        case hf165 => kernel_rfl
        case hr165 => kernel_rfl
        case hQ165 => exact fun _ _ _ h => h
        case hS165 => assumption
        case hy165 => refine Or.inl ⟨by rfl, ?_⟩; intro w hSw; (try dsimp only at hSw); go_simp; (try with_reducible rfl)
        simp only [Act.put, List.setIfInBounds_toArray, List.set_cons_zero, List.set_cons_succ]
        refine wpAnyH_take (i := 1) (oi := ?oi166) (v := ?v166) ?hi166 ?hs166 ?hf166 ?hr166 ?hQ166 ?hy166 ?hS166 ?hrest166
        case hi166 => (conv => lhs; simp only [List.getElem?_toArray, List.getElem?_cons_zero, List.getElem?_cons_succ]); try exact rfl
        case hs166 => kernel_rfl
        case hf166 => kernel_rfl
        case hr166 => kernel_rfl
        case hQ166 => exact fun _ _ _ h => h
        case hS166 => assumption
        case hy166 => refine Or.inl ⟨by rfl, ?_⟩; intro w hSw; (try dsimp only at hSw); go_simp; (try with_reducible rfl)
        simp only [Act.put, List.setIfInBounds_toArray, List.set_cons_zero, List.set_cons_succ]
        refine wpAnyH_ready (rs := [2]) (by kernel_rfl) (by simp) ?_
        refine AllReadyH.cons (o := ?oi167) ?hi167 (fun K hK => ?_) AllReadyH.nil
        case hi167 => (conv => lhs; simp only [List.getElem?_toArray, List.getElem?_cons_zero, List.getElem?_cons_succ]); try exact rfl
        go_simp
        go_at_call 61
        refine (nameOk_spec es hszk _).mono ?_
        rintro e w7 ⟨rfl, hb7⟩
        refine hK.out _ _ (by obtain ⟨a0, a1, a2, a3⟩ := hHeld; exact ⟨keep1 hb7 a0 (Nat.le_refl _), keep1 hb7 a1 (Nat.le_refl _), keep1 hb7 a2 (Nat.le_refl _), keep1 hb7 a3 (Nat.le_refl _)⟩) (fun hHeld167 => ?_)
        clear hK K
        clear hHeld
        refine wpAnyH_take (i := 3) (oi := ?oi168) (v := ?v168) ?hi168 ?hs168 ?hf168 ?hr168 ?hQ168 ?hy168 ?hS168 ?hrest168
        case hi168 => (conv => lhs; simp only [List.getElem?_toArray, List.getElem?_cons_zero, List.getElem?_cons_succ]); try exact rfl
        case hs168 => kernel_rfl
        case hf168 => kernel_rfl
        case hr168 => kernel_rfl
        case hQ168 => exact fun _ _ _ h => h
        case hS168 => assumption
        case hy168 => refine Or.inl ⟨by rfl, ?_⟩; intro w hSw; (try dsimp only at hSw); go_simp; (try with_reducible rfl)
        simp only [Act.put, List.setIfInBounds_toArray, List.set_cons_zero, List.set_cons_succ]
        refine wpAnyH_take (i := 4) (oi := ?oi169) (v := ?v169) ?hi169 ?hs169 ?hf169 ?hr169 ?hQ169 ?hy169 ?hS169 ?hrest169
        case hi169 => (conv => lhs; simp only [List.getElem?_toArray, List.getElem?_cons_zero, List.getElem?_cons_succ]); try exact rfl
        case hs169 => kernel_rfl
        case hf169 => kernel_rfl
        case hr169 => kernel_rfl
        case hQ169 => exact fun _ _ _ h => h
        case hS169 => assumption
        case hy169 => refine Or.inl ⟨by rfl, ?_⟩; intro w hSw; (try dsimp only at hSw); go_simp; (try with_reducible rfl)
        simp only [Act.put, List.setIfInBounds_toArray, List.set_cons_zero, List.set_cons_succ]
        refine wpAnyH_take (i := 5) (oi := ?oi170) (v := ?v170) ?hi170 ?hs170 ?hf170 ?hr170 ?hQ170 ?hy170 ?hS170 ?hrest170
        case hi170 => (conv => lhs; simp only [List.getElem?_toArray, List.getElem?_cons_zero, List.getElem?_cons_succ]); try exact rfl
        case hs170 => kernel_rfl
        case hf170 => kernel_rfl
        case hr170 => kernel_rfl
        case hQ170 => exact fun _ _ _ h => h
        case hS170 => assumption
        case hy170 => refine Or.inl ⟨by rfl, ?_⟩; intro w hSw; (try dsimp only at hSw); go_simp; (try with_reducible rfl)
        simp only [Act.put, List.setIfInBounds_toArray, List.set_cons_zero, List.set_cons_succ]
        refine wpAnyH_take (i := 6) (oi := ?oi171) (v := ?v171) ?hi171 ?hs171 ?hf171 ?hr171 ?hQ171 ?hy171 ?hS171 ?hrest171
        case hi171 => (conv => lhs; simp only [List.getElem?_toArray, List.getElem?_cons_zero, List.getElem?_cons_succ]); try exact rfl
        case hs171 => kernel_rfl
        case hf171 => kernel_rfl
        case hr171 => kernel_rfl
        case hQ171 => exact fun _ _ _ h => h
        case hS171 => assumption
        case hy171 => refine Or.inl ⟨by rfl, ?_⟩; intro w hSw; (try dsimp only at hSw); go_simp; (try with_reducible rfl)
        simp only [Act.put, List.setIfInBounds_toArray, List.set_cons_zero, List.set_cons_succ]
        refine wpAnyH_take (i := 7) (oi := ?oi172) (v := ?v172) ?hi172 ?hs172 ?hf172 ?hr172 ?hQ172 ?hy172 ?hS172 ?hrest172
        case hi172 => (conv => lhs; simp only [List.getElem?_toArray, List.getElem?_cons_zero, List.getElem?_cons_succ]); try exact rfl
        case hs172 => kernel_rfl
        case hf172 => kernel_rfl
        case hr172 => kernel_rfl
        case hQ172 => exact fun _ _ _ h => h
        case hS172 => assumption
        case hy172 => refine Or.inl ⟨by rfl, ?_⟩; intro w hSw; (try dsimp only at hSw); go_simp; (try with_reducible rfl)
        simp only [Act.put, List.setIfInBounds_toArray, List.set_cons_zero, List.set_cons_succ]
        refine wpAnyH_take (i := 8) (oi := ?oi173) (v := ?v173) ?hi173 ?hs173 ?hf173 ?hr173 ?hQ173 ?hy173 ?hS173 ?hrest173
        case hi173 => (conv => lhs; simp only [List.getElem?_toArray, List.getElem?_cons_zero, List.getElem?_cons_succ]); try exact rfl
        case hs173 => kernel_rfl
        case hf173 => kernel_rfl
        case hr173 => kernel_rfl
        case hQ173 => exact fun _ _ _ h => h
        case hS173 => assumption
        case hy173 => refine Or.inl ⟨by rfl, ?_⟩; intro w hSw; (try dsimp only at hSw); go_simp; (try with_reducible rfl)
        simp only [Act.put, List.setIfInBounds_toArray, List.set_cons_zero, List.set_cons_succ]
        refine wpAnyH_ready (rs := [9]) (by kernel_rfl) (by simp) ?_
        refine AllReadyH.cons (o := ?oi174) ?hi174 (fun K hK => ?_) AllReadyH.nil
        case hi174 => (conv => lhs; simp only [List.getElem?_toArray, List.getElem?_cons_zero, List.getElem?_cons_succ]); try exact rfl
        go_simp
        go_at_call 62
        refine (hashOf_spec es hszk _).mono ?_
        rintro e w8 ⟨rfl, hb8⟩
        refine hK.out _ _ (by obtain ⟨a0, a1, a2, a3⟩ := hHeld167; exact ⟨keep1 hb8 a0 (Nat.le_refl _), keep1 hb8 a1 (Nat.le_refl _), keep1 hb8 a2 (Nat.le_refl _), keep1 hb8 a3 (Nat.le_refl _)⟩) (fun hHeld174 => ?_)
        clear hK K
        clear hHeld167
        refine wpAnyH_take (i := 10) (oi := ?oi175) (v := ?v175) ?hi175 ?hs175 ?hf175 ?hr175 ?hQ175 ?hy175 ?hS175 ?hrest175
        case hi175 => (conv => lhs; simp only [List.getElem?_toArray, List.getElem?_cons_zero, List.getElem?_cons_succ]); try exact rfl
        case hs175 => kernel_rfl
        case hf175 => kernel_rfl
        case hr175 => kernel_rfl
        case hQ175 => exact fun _ _ _ h => h
        case hS175 => assumption
        case hy175 => refine Or.inl ⟨by rfl, ?_⟩; intro w hSw; (try dsimp only at hSw); go_simp; (try with_reducible rfl)
        simp only [Act.put, List.setIfInBounds_toArray, List.set_cons_zero, List.set_cons_succ]
        refine wpAnyH_take (i := 11) (oi := ?oi176) (v := ?v176) ?hi176 ?hs176 ?hf176 ?hr176 ?hQ176 ?hy176 ?hS176 ?hrest176
        case hi176 => (conv => lhs; simp only [List.getElem?_toArray, List.getElem?_cons_zero, List.getElem?_cons_succ]); try exact rfl
        case hs176 => kernel_rfl
        case hf176 => kernel_rfl
        case hr176 => kernel_rfl
        case hQ176 => exact fun _ _ _ h => h
        case hS176 => assumption
        case hy176 => refine Or.inl ⟨by rfl, ?_⟩; intro w hSw; (try dsimp only at hSw); go_simp; (try with_reducible rfl)
        simp only [Act.put, List.setIfInBounds_toArray, List.set_cons_zero, List.set_cons_succ]
        refine wpAnyH_take (i := 12) (oi := ?oi177) (v := ?v177) ?hi177 ?hs177 ?hf177 ?hr177 ?hQ177 ?hy177 ?hS177 ?hrest177
        case hi177 => (conv => lhs; simp only [List.getElem?_toArray, List.getElem?_cons_zero, List.getElem?_cons_succ]); try exact rfl
        case hs177 => kernel_rfl
        case hf177 => kernel_rfl
        case hr177 => kernel_rfl
        case hQ177 => exact fun _ _ _ h => h
        case hS177 => assumption
        case hy177 => refine Or.inl ⟨by rfl, ?_⟩; intro w hSw; (try dsimp only at hSw); go_simp; (try with_reducible rfl)
        simp only [Act.put, List.setIfInBounds_toArray, List.set_cons_zero, List.set_cons_succ]
        refine wpAnyH_take (i := 13) (oi := ?oi178) (v := ?v178) ?hi178 ?hs178 ?hf178 ?hr178 ?hQ178 ?hy178 ?hS178 ?hrest178
        case hi178 => (conv => lhs; simp only [List.getElem?_toArray, List.getElem?_cons_zero, List.getElem?_cons_succ]); try exact rfl
        case hs178 => kernel_rfl
        case hf178 => kernel_rfl
        case hr178 => kernel_rfl
        case hQ178 => exact fun _ _ _ h => h
        case hS178 => assumption
        case hy178 => refine Or.inl ⟨by rfl, ?_⟩; intro w hSw; (try dsimp only at hSw); go_simp; (try with_reducible rfl)
        simp only [Act.put, List.setIfInBounds_toArray, List.set_cons_zero, List.set_cons_succ]
        refine wpAnyH_take (i := 14) (oi := ?oi179) (v := ?v179) ?hi179 ?hs179 ?hf179 ?hr179 ?hQ179 ?hy179 ?hS179 ?hrest179
        case hi179 => (conv => lhs; simp only [List.getElem?_toArray, List.getElem?_cons_zero, List.getElem?_cons_succ]); try exact rfl
        case hs179 => kernel_rfl
        case hf179 => kernel_rfl
        case hr179 => kernel_rfl
        case hQ179 => exact fun _ _ _ h => h
        case hS179 => assumption
        case hy179 => refine Or.inl ⟨by rfl, ?_⟩; intro w hSw; (try dsimp only at hSw); go_simp; (try with_reducible rfl)
        simp only [Act.put, List.setIfInBounds_toArray, List.set_cons_zero, List.set_cons_succ]
        refine wpAnyH_ready (rs := [15]) (by kernel_rfl) (by simp) ?_
        refine AllReadyH.cons (o := ?oi180) ?hi180 (fun K hK => ?_) AllReadyH.nil
        case hi180 => (conv => lhs; simp only [List.getElem?_toArray, List.getElem?_cons_zero, List.getElem?_cons_succ]); try exact rfl
        go_simp
        go_at_call 60
        refine (l1In_any _ _ _ _).mono ?_
        rintro e w' ⟨rfl, rfl⟩
        refine hK.out _ _ hHeld174 (fun hHeld180 => ?_)
        clear hK K
        refine wpAnyH_take (i := 16) (oi := ?oi181) (v := ?v181) ?hi181 ?hs181 ?hf181 ?hr181 ?hQ181 ?hy181 ?hS181 ?hrest181
        case hi181 => (conv => lhs; simp only [List.getElem?_toArray, List.getElem?_cons_zero, List.getElem?_cons_succ]); try exact rfl
        case hs181 => kernel_rfl
        case hf181 => kernel_rfl
        case hr181 => kernel_rfl
        case hQ181 => exact fun _ _ _ h => h
        case hS181 => assumption
        case hy181 => refine Or.inl ⟨by rfl, ?_⟩; intro w hSw; (try dsimp only at hSw); go_simp; (try with_reducible rfl)
        simp only [Act.put, List.setIfInBounds_toArray, List.set_cons_zero, List.set_cons_succ]
        refine wpAnyH_take (i := 17) (oi := ?oi182) (v := ?v182) ?hi182 ?hs182 ?hf182 ?hr182 ?hQ182 ?hy182 ?hS182 ?hrest182
        case hi182 => (conv => lhs; simp only [List.getElem?_toArray, List.getElem?_cons_zero, List.getElem?_cons_succ]); try exact rfl
        case hs182 => kernel_rfl
        case hf182 => kernel_rfl
        case hr182 => kernel_rfl
        case hQ182 => exact fun _ _ _ h => h
        case hS182 => assumption
        case hy182 => refine Or.inl ⟨by rfl, ?_⟩; intro w hSw; (try dsimp only at hSw); go_simp; (try with_reducible rfl)
        simp only [Act.put, List.setIfInBounds_toArray, List.set_cons_zero, List.set_cons_succ]
        refine wpAnyH_take (i := 18) (oi := ?oi183) (v := ?v183) ?hi183 ?hs183 ?hf183 ?hr183 ?hQ183 ?hy183 ?hS183 ?hrest183
        case hi183 => (conv => lhs; simp only [List.getElem?_toArray, List.getElem?_cons_zero, List.getElem?_cons_succ]); try exact rfl
        case hs183 => kernel_rfl
        case hf183 => kernel_rfl
        case hr183 => kernel_rfl
        case hQ183 => exact fun _ _ _ h => h
        case hS183 => assumption
        case hy183 => refine Or.inl ⟨by rfl, ?_⟩; intro w hSw; (try dsimp only at hSw); go_simp; (try with_reducible rfl)
        simp only [Act.put, List.setIfInBounds_toArray, List.set_cons_zero, List.set_cons_succ]
        refine wpAnyH_take (i := 19) (oi := ?oi184) (v := ?v184) ?hi184 ?hs184 ?hf184 ?hr184 ?hQ184 ?hy184 ?hS184 ?hrest184
        case hi184 => (conv => lhs; simp only [List.getElem?_toArray, List.getElem?_cons_zero, List.getElem?_cons_succ]); try exact rfl
        case hs184 => kernel_rfl
        case hf184 => kernel_rfl
        case hr184 => kernel_rfl
        case hQ184 => exact fun _ _ _ h => h
        case hS184 => assumption
        case hy184 => refine Or.inl ⟨by rfl, ?_⟩; intro w hSw; (try dsimp only at hSw); go_simp; (try with_reducible rfl)
        simp only [Act.put, List.setIfInBounds_toArray, List.set_cons_zero, List.set_cons_succ]
        refine wpAnyH_take (i := 20) (oi := ?oi185) (v := ?v185) ?hi185 ?hs185 ?hf185 ?hr185 ?hQ185 ?hy185 ?hS185 ?hrest185
        case hi185 => (conv => lhs; simp only [List.getElem?_toArray, List.getElem?_cons_zero, List.getElem?_cons_succ]); try exact rfl
        case hs185 => kernel_rfl
        case hf185 => kernel_rfl
        case hr185 => kernel_rfl
        case hQ185 => exact fun _ _ _ h => h
        case hS185 => assumption
        case hy185 => refine Or.inl ⟨by rfl, ?_⟩; intro w hSw; (try dsimp only at hSw); go_simp; (try with_reducible rfl)
        simp only [Act.put, List.setIfInBounds_toArray, List.set_cons_zero, List.set_cons_succ]
        refine wpAnyH_ready (rs := [21]) (by kernel_rfl) (by simp) ?_
        refine AllReadyH.cons (o := ?oi186) ?hi186 (fun K hK => ?_) AllReadyH.nil
        case hi186 => (conv => lhs; simp only [List.getElem?_toArray, List.getElem?_cons_zero, List.getElem?_cons_succ]); try exact rfl
        go_simp
        go_at_call 60
        refine (l1In_any _ _ _ _).mono ?_
        rintro e w' ⟨rfl, rfl⟩
        refine hK.out _ _ hHeld180 (fun hHeld186 => ?_)
        clear hK K
        refine wpAnyH_take (i := 22) (oi := ?oi187) (v := ?v187) ?hi187 ?hs187 ?hf187 ?hr187 ?hQ187 ?hy187 ?hS187 ?hrest187
        case hi187 => (conv => lhs; simp only [List.getElem?_toArray, List.getElem?_cons_zero, List.getElem?_cons_succ]); try exact rfl
        case hs187 => kernel_rfl
        case hf187 => kernel_rfl
        case hr187 => kernel_rfl
        case hQ187 => exact fun _ _ _ h => h
        case hS187 => assumption
        case hy187 => refine Or.inl ⟨by rfl, ?_⟩; intro w hSw; (try dsimp only at hSw); go_simp; (try with_reducible rfl)
        simp only [Act.put, List.setIfInBounds_toArray, List.set_cons_zero, List.set_cons_succ]
        refine wpAnyH_take (i := 23) (oi := ?oi188) (v := ?v188) ?hi188 ?hs188 ?hf188 ?hr188 ?hQ188 ?hy188 ?hS188 ?hrest188
        case hi188 => (conv => lhs; simp only [List.getElem?_toArray, List.getElem?_cons_zero, List.getElem?_cons_succ]); try exact rfl
        case hs188 => kernel_rfl
        case hf188 => kernel_rfl
        case hr188 => kernel_rfl
        case hQ188 => exact fun _ _ _ h => h
        case hS188 => assumption
        case hy188 => refine Or.inl ⟨by rfl, ?_⟩; intro w hSw; (try dsimp only at hSw); go_simp; (try with_reducible rfl)
        simp only [Act.put, List.setIfInBounds_toArray, List.set_cons_zero, List.set_cons_succ]
        refine wpAnyH_take (i := 24) (oi := ?oi189) (v := ?v189) ?hi189 ?hs189 ?hf189 ?hr189 ?hQ189 ?hy189 ?hS189 ?hrest189
        case hi189 => (conv => lhs; simp only [List.getElem?_toArray, List.getElem?_cons_zero, List.getElem?_cons_succ]); try exact rfl
        case hs189 => kernel_rfl
        case hf189 => kernel_rfl
        case hr189 => kernel_rfl
        case hQ189 => exact fun _ _ _ h => h
        case hS189 => assumption
        case hy189 => refine Or.inl ⟨by rfl, ?_⟩; intro w hSw; (try dsimp only at hSw); go_simp; (try with_reducible rfl)
        simp only [Act.put, List.setIfInBounds_toArray, List.set_cons_zero, List.set_cons_succ]
        refine wpAnyH_take (i := 25) (oi := ?oi190) (v := ?v190) ?hi190 ?hs190 ?hf190 ?hr190 ?hQ190 ?hy190 ?hS190 ?hrest190
        case hi190 => (conv => lhs; simp only [List.getElem?_toArray, List.getElem?_cons_zero, List.getElem?_cons_succ]); try exact rfl
        case hs190 => kernel_rfl
        case hf190 => kernel_rfl
        case hr190 => kernel_rfl
        case hQ190 => exact fun _ _ _ h => h
        case hS190 => assumption
        case hy190 => refine Or.inl ⟨by rfl, ?_⟩; intro w hSw; (try dsimp only at hSw); go_simp; (try with_reducible rfl)
        simp only [Act.put, List.setIfInBounds_toArray, List.set_cons_zero, List.set_cons_succ]
        refine wpAnyH_take (i := 26) (oi := ?oi191) (v := ?v191) ?hi191 ?hs191 ?hf191 ?hr191 ?hQ191 ?hy191 ?hS191 ?hrest191
        case hi191 => (conv => lhs; simp only [List.getElem?_toArray, List.getElem?_cons_zero, List.getElem?_cons_succ]); try exact rfl
        case hs191 => kernel_rfl
        case hf191 => kernel_rfl
        case hr191 => kernel_rfl
        case hQ191 => exact fun _ _ _ h => h
        case hS191 => assumption
        case hy191 => refine Or.inl ⟨by rfl, ?_⟩; intro w hSw; (try dsimp only at hSw); go_simp; (try with_reducible rfl)
        simp only [Act.put, List.setIfInBounds_toArray, List.set_cons_zero, List.set_cons_succ]
        refine wpAnyH_take (i := 27) (oi := ?oi192) (v := ?v192) ?hi192 ?hs192 ?hf192 ?hr192 ?hQ192 ?hy192 ?hS192 ?hrest192
        case hi192 => (conv => lhs; simp only [List.getElem?_toArray, List.getElem?_cons_zero, List.getElem?_cons_succ]); try exact rfl
        case hs192 => kernel_rfl
        case hf192 => kernel_rfl
        case hr192 => kernel_rfl
        case hQ192 => exact fun _ _ _ h => h
        case hS192 => assumption
        case hy192 => refine Or.inl ⟨by rfl, ?_⟩; intro w hSw; (try dsimp only at hSw); go_simp; (try with_reducible rfl)
        simp only [Act.put, List.setIfInBounds_toArray, List.set_cons_zero, List.set_cons_succ]
        refine wpAnyH_take (i := 28) (oi := ?oi193) (v := undef) ?hi193 ?hs193 ?hf193 ?hr193 ?hQ193 ?hy193 ?hS193 ?hrest193
        case hi193 => (conv => lhs; simp only [List.getElem?_toArray, List.getElem?_cons_zero, List.getElem?_cons_succ]); try exact rfl
        case hs193 => kernel_rfl
        case hf193 => kernel_rfl
        case hr193 => kernel_rfl
        case hQ193 => exact fun _ _ _ h => h
        case hS193 => assumption
        case hy193 => exact Or.inr ⟨by rfl, rfl⟩
        simp only [Act.put, List.setIfInBounds_toArray, List.set_cons_zero, List.set_cons_succ]
        refine wpAnyH_take (i := 29) (oi := ?oi194) (v := undef) ?hi194 ?hs194 ?hf194 ?hr194 ?hQ194 ?hy194 ?hS194 ?hrest194
        case hi194 => (conv => lhs; simp only [List.getElem?_toArray, List.getElem?_cons_zero, List.getElem?_cons_succ]); try exact rfl
        case hs194 => kernel_rfl
        case hf194 => kernel_rfl
        case hr194 => kernel_rfl
        case hQ194 => exact fun _ _ _ h => h
        case hS194 => assumption
        case hy194 => exact Or.inr ⟨by rfl, rfl⟩
        simp only [Act.put, List.setIfInBounds_toArray, List.set_cons_zero, List.set_cons_succ]
        refine wpAnyH_take (i := 30) (oi := ?oi195) (v := undef) ?hi195 ?hs195 ?hf195 ?hr195 ?hQ195 ?hy195 ?hS195 ?hrest195
        case hi195 => (conv => lhs; simp only [List.getElem?_toArray, List.getElem?_cons_zero, List.getElem?_cons_succ]); try exact rfl
        case hs195 => kernel_rfl
        case hf195 => kernel_rfl
        case hr195 => kernel_rfl
        case hQ195 => exact fun _ _ _ h => h
        case hS195 => assumption
        case hy195 => exact Or.inr ⟨by rfl, rfl⟩
        simp only [Act.put, List.setIfInBounds_toArray, List.set_cons_zero, List.set_cons_succ]
        refine wpAnyH_take (i := 31) (oi := ?oi196) (v := undef) ?hi196 ?hs196 ?hf196 ?hr196 ?hQ196 ?hy196 ?hS196 ?hrest196
        case hi196 => (conv => lhs; simp only [List.getElem?_toArray, List.getElem?_cons_zero, List.getElem?_cons_succ]); try exact rfl
        case hs196 => kernel_rfl
        case hf196 => kernel_rfl
        case hr196 => kernel_rfl
        case hQ196 => exact fun _ _ _ h => h
        case hS196 => assumption
        case hy196 => exact Or.inr ⟨by rfl, rfl⟩
        simp only [Act.put, List.setIfInBounds_toArray, List.set_cons_zero, List.set_cons_succ]
        refine wpAnyH_take (i := 32) (oi := ?oi197) (v := undef) ?hi197 ?hs197 ?hf197 ?hr197 ?hQ197 ?hy197 ?hS197 ?hrest197
        case hi197 => (conv => lhs; simp only [List.getElem?_toArray, List.getElem?_cons_zero, List.getElem?_cons_succ]); try exact rfl
        case hs197 => kernel_rfl
        case hf197 => kernel_rfl
        case hr197 => kernel_rfl
        case hQ197 => exact fun _ _ _ h => h
        case hS197 => assumption
        case hy197 => exact Or.inr ⟨by rfl, rfl⟩
        simp only [Act.put, List.setIfInBounds_toArray, List.set_cons_zero, List.set_cons_succ]
        refine wpAnyH_take (i := 33) (oi := ?oi198) (v := undef) ?hi198 ?hs198 ?hf198 ?hr198 ?hQ198 ?hy198 ?hS198 ?hrest198
        case hi198 => (conv => lhs; simp only [List.getElem?_toArray, List.getElem?_cons_zero, List.getElem?_cons_succ]); try exact rfl
        case hs198 => kernel_rfl
        case hf198 => kernel_rfl
        case hr198 => kernel_rfl
        case hQ198 => exact fun _ _ _ h => h
        case hS198 => assumption
        case hy198 => exact Or.inr ⟨by rfl, rfl⟩
        simp only [Act.put, List.setIfInBounds_toArray, List.set_cons_zero, List.set_cons_succ]
        refine wpAnyH_take (i := 34) (oi := ?oi199) (v := undef) ?hi199 ?hs199 ?hf199 ?hr199 ?hQ199 ?hy199 ?hS199 ?hrest199
        case hi199 => (conv => lhs; simp only [List.getElem?_toArray, List.getElem?_cons_zero, List.getElem?_cons_succ]); try exact rfl
        case hs199 => kernel_rfl
        case hf199 => kernel_rfl
        case hr199 => kernel_rfl
        case hQ199 => exact fun _ _ _ h => h
        case hS199 => assumption
        case hy199 => exact Or.inr ⟨by rfl, rfl⟩
        simp only [Act.put, List.setIfInBounds_toArray, List.set_cons_zero, List.set_cons_succ]
        refine wpAnyH_take (i := 35) (oi := ?oi200) (v := undef) ?hi200 ?hs200 ?hf200 ?hr200 ?hQ200 ?hy200 ?hS200 ?hrest200
        case hi200 => (conv => lhs; simp only [List.getElem?_toArray, List.getElem?_cons_zero, List.getElem?_cons_succ]); try exact rfl
        case hs200 => kernel_rfl
        case hf200 => kernel_rfl
        case hr200 => kernel_rfl
        case hQ200 => exact fun _ _ _ h => h
        case hS200 => assumption
        case hy200 => exact Or.inr ⟨by rfl, rfl⟩
        simp only [Act.put, List.setIfInBounds_toArray, List.set_cons_zero, List.set_cons_succ]
        refine wpAnyH_take (i := 36) (oi := ?oi201) (v := undef) ?hi201 ?hs201 ?hf201 ?hr201 ?hQ201 ?hy201 ?hS201 ?hrest201
        case hi201 => (conv => lhs; simp only [List.getElem?_toArray, List.getElem?_cons_zero, List.getElem?_cons_succ]); try exact rfl
        case hs201 => kernel_rfl
        case hf201 => kernel_rfl
        case hr201 => kernel_rfl
        case hQ201 => exact fun _ _ _ h => h
        case hS201 => assumption
        case hy201 => exact Or.inr ⟨by rfl, rfl⟩
        simp only [Act.put, List.setIfInBounds_toArray, List.set_cons_zero, List.set_cons_succ]
        refine wpAnyH_take (i := 37) (oi := ?oi202) (v := undef) ?hi202 ?hs202 ?hf202 ?hr202 ?hQ202 ?hy202 ?hS202 ?hrest202
        case hi202 => (conv => lhs; simp only [List.getElem?_toArray, List.getElem?_cons_zero, List.getElem?_cons_succ]); try exact rfl
        case hs202 => kernel_rfl
        case hf202 => kernel_rfl
        case hr202 => kernel_rfl
        case hQ202 => exact fun _ _ _ h => h
        case hS202 => assumption
        case hy202 => exact Or.inr ⟨by rfl, rfl⟩
        simp only [Act.put, List.setIfInBounds_toArray, List.set_cons_zero, List.set_cons_succ]
        refine wpAnyH_take (i := 38) (oi := ?oi203) (v := undef) ?hi203 ?hs203 ?hf203 ?hr203 ?hQ203 ?hy203 ?hS203 ?hrest203
        case hi203 => (conv => lhs; simp only [List.getElem?_toArray, List.getElem?_cons_zero, List.getElem?_cons_succ]); try exact rfl
        case hs203 => kernel_rfl
        case hf203 => kernel_rfl
        case hr203 => kernel_rfl
        case hQ203 => exact fun _ _ _ h => h
        case hS203 => assumption
        case hy203 => exact Or.inr ⟨by rfl, rfl⟩
        simp only [Act.put, List.setIfInBounds_toArray, List.set_cons_zero, List.set_cons_succ]
        refine wpAnyH_take (i := 39) (oi := ?oi204) (v := ?v204) ?hi204 ?hs204 ?hf204 ?hr204 ?hQ204 ?hy204 ?hS204 ?hrest204
        case hi204 => (conv => lhs; simp only [List.getElem?_toArray, List.getElem?_cons_zero, List.getElem?_cons_succ]); try exact rfl
        case hs204 => kernel_rfl
        case hf204 => kernel_rfl
        case hr204 => kernel_rfl
        case hQ204 => exact fun _ _ _ h => h
        case hS204 => assumption
        case hy204 => refine Or.inl ⟨by rfl, ?_⟩; intro w hSw; (try dsimp only at hSw); go_simp; (try with_reducible rfl)
        simp only [Act.put, List.setIfInBounds_toArray, List.set_cons_zero, List.set_cons_succ]
        refine wpAnyH_take (i := 40) (oi := ?oi205) (v := ?v205) ?hi205 ?hs205 ?hf205 ?hr205 ?hQ205 ?hy205 ?hS205 ?hrest205
        case hi205 => (conv => lhs; simp only [List.getElem?_toArray, List.getElem?_cons_zero, List.getElem?_cons_succ]); try exact rfl
        case hs205 => kernel_rfl
        case hf205 => kernel_rfl
        case hr205 => kernel_rfl
        case hQ205 => exact fun _ _ _ h => h
        case hS205 => assumption
        case hy205 => refine Or.inl ⟨by rfl, ?_⟩; intro w hSw; (try dsimp only at hSw); go_simp; (try with_reducible rfl)
        simp only [Act.put, List.setIfInBounds_toArray, List.set_cons_zero, List.set_cons_succ]
        refine wpAnyH_done (by kernel_rfl) ?_ _
        have b8 := belN (belN b1.drew hb7) hb8
        have hI9 : ¬ (0 : Int) < I := by have := HI.out; have := Hk0.out; omega
        clear y0 y1 y2 y3 hnm hh hx hd
        go_wp2
        refine wp_loop_rounds 1 ?_
        rw [rounds_succ]
        go_wp2
        go_roundw
        case rel =>
          refine ⟨k + 1, I + 1, by omega, by go_num, by have := HI.out; show _ = _; omega, fun j hj => ?_, b8⟩
          rcases Nat.lt_or_ge j k with h | h
          · exact hgood.out j h
          · rw [show j = k by omega]; exact Hgd.out
        case measure => simp [intOf]; omega
      · obtain ⟨p, hp⟩ : ∃ p, k = p + 1 := ⟨k - 1, by omega⟩
        have Hp := Lib.hid hp
        obtain ⟨hpx, b', o', he', _, x0, x1, x2, x3⟩ := reads_ent (Hr.out.below b1) (k := p) (by omega)
        injection he' with he'
        injection he' with e1 e2
        subst e1
        subst e2
        have w1' : IntKind.i64.wrap (I - 1) = (p : Int) := by rw [IntWalk.i64_in _ (by omega)]; have := HI.out; omega
        have w2' : I - 1 = (p : Int) := by have := HI.out; omega
        have w3' : IntKind.i64.wrap (p : Int) = (p : Int) := IntWalk.i64_in _ (by omega)
        have p0 : (0 : Int) ≤ ↑p := by omega
        have p1 : (p : Int) < ↑n := by omega
        have hI2 : 0 < I := by have := HI.out; omega
        clear hp
        have hlb := less_beh ds[p] ⟨eh, ei, es, ed⟩
        simp only at hlb
        rcases hbh : behB ⟨eh, ei, es, ed⟩ ds[p].h ds[p].i with _ | _
        · have Hf := Lib.hid (not_good hkx fun hg => by
            obtain ⟨_, _, h3, _⟩ := hg
            have h4 := h3 hk0
            have hpp : k - 1 = p := by have := Hp.out; omega
            simp only [hpp, He.out] at h4
            rw [hbh] at h4; cases h4)
          have hlb2 := hlb.trans hbh
          clear hlb hbh
          go_wp2_with fail
          go_region_held3 (fun w' => w'.cell? ⟨wr.heap.size, 0, none⟩ = some (.int .i64 eh) ∧ w'.cell? ⟨wr.heap.size, 1, none⟩ = some (.int .i64 ei) ∧ w'.cell? ⟨wr.heap.size, 2, none⟩ = some (.string es) ∧ w'.cell? ⟨wr.heap.size, 3, none⟩ = some (.int .i64 ed) ∧ w'.cell? ⟨b, o + p * 4, none⟩ = some (.int .i64 ds[p].h) ∧ w'.cell? ⟨b, o + p * 4 + 1, none⟩ = some (.int .i64 ds[p].i) ∧ w'.cell? ⟨b, o + p * 4 + 2, none⟩ = some (.string ds[p].s) ∧ w'.cell? ⟨b, o + p * 4 + 3, none⟩ = some (.int .i64 ds[p].d))
            (first | go_keep | (refine ⟨keep1 hb9 ?_, keep1 hb9 ?_, keep1 hb9 ?_, keep1 hb9 ?_, keep1 hb9 ?_, keep1 hb9 ?_, keep1 hb9 ?_, keep1 hb9 ?_⟩ <;> go_keep) | (refine ⟨keep1 hb8 ?_, keep1 hb8 ?_, keep1 hb8 ?_, keep1 hb8 ?_, keep1 hb8 ?_, keep1 hb8 ?_, keep1 hb8 ?_, keep1 hb8 ?_⟩ <;> go_keep) | (refine ⟨keep1 hb7 ?_, keep1 hb7 ?_, keep1 hb7 ?_, keep1 hb7 ?_, keep1 hb7 ?_, keep1 hb7 ?_, keep1 hb7 ?_, keep1 hb7 ?_⟩ <;> go_keep))
            (first
              | (go_at_call 61; refine (nameOk_spec es hszk _).mono ?_; rintro e w7 ⟨rfl, hb7⟩)
              | (go_at_call 62; refine (hashOf_spec es hszk _).mono ?_; rintro e w8 ⟨rfl, hb8⟩)
              | (go_at_call 60; refine (l1In_any _ _ _ _).mono ?_; rintro e w' ⟨rfl, rfl⟩)
              | (go_at_call 39; refine (l5Less_any ds[p] _ _ _).mono ?_; rintro e w9 ⟨rfl, hb9⟩))
          go_wp2
          go_ret
          exact ⟨ret_bool Hf.out.symm, belN (belN (belN b1.drew hb7) hb8) hb9⟩
        · have Hbh := Lib.hid (show ∀ h1 : 0 < k, behB ds[k] (ds[k - 1]'(by omega)).h (ds[k - 1]'(by omega)).i = true by
            intro h1
            have hpp : k - 1 = p := by have := Hp.out; omega
            simp only [hpp, He.out]; exact hbh)
          have hlb2 := hlb.trans hbh
          clear hlb hbh
          go_wp2_with fail
          go_region_held3 (fun w' => w'.cell? ⟨wr.heap.size, 0, none⟩ = some (.int .i64 eh) ∧ w'.cell? ⟨wr.heap.size, 1, none⟩ = some (.int .i64 ei) ∧ w'.cell? ⟨wr.heap.size, 2, none⟩ = some (.string es) ∧ w'.cell? ⟨wr.heap.size, 3, none⟩ = some (.int .i64 ed) ∧ w'.cell? ⟨b, o + p * 4, none⟩ = some (.int .i64 ds[p].h) ∧ w'.cell? ⟨b, o + p * 4 + 1, none⟩ = some (.int .i64 ds[p].i) ∧ w'.cell? ⟨b, o + p * 4 + 2, none⟩ = some (.string ds[p].s) ∧ w'.cell? ⟨b, o + p * 4 + 3, none⟩ = some (.int .i64 ds[p].d))
            (first | go_keep | (refine ⟨keep1 hb9 ?_, keep1 hb9 ?_, keep1 hb9 ?_, keep1 hb9 ?_, keep1 hb9 ?_, keep1 hb9 ?_, keep1 hb9 ?_, keep1 hb9 ?_⟩ <;> go_keep) | (refine ⟨keep1 hb8 ?_, keep1 hb8 ?_, keep1 hb8 ?_, keep1 hb8 ?_, keep1 hb8 ?_, keep1 hb8 ?_, keep1 hb8 ?_, keep1 hb8 ?_⟩ <;> go_keep) | (refine ⟨keep1 hb7 ?_, keep1 hb7 ?_, keep1 hb7 ?_, keep1 hb7 ?_, keep1 hb7 ?_, keep1 hb7 ?_, keep1 hb7 ?_, keep1 hb7 ?_⟩ <;> go_keep))
            (first
              | (go_at_call 61; refine (nameOk_spec es hszk _).mono ?_; rintro e w7 ⟨rfl, hb7⟩)
              | (go_at_call 62; refine (hashOf_spec es hszk _).mono ?_; rintro e w8 ⟨rfl, hb8⟩)
              | (go_at_call 60; refine (l1In_any _ _ _ _).mono ?_; rintro e w' ⟨rfl, rfl⟩)
              | (go_at_call 39; refine (l5Less_any ds[p] _ _ _).mono ?_; rintro e w9 ⟨rfl, hb9⟩))
          have b9 := belN (belN (belN b1.drew hb7) hb8) hb9
          have hB9 := ((hB.drew.below hb7 hB.drew.lt).below hb8 (hB.drew.below hb7 hB.drew.lt).lt).below hb9 ((hB.drew.below hb7 hB.drew.lt).below hb8 (hB.drew.below hb7 hB.drew.lt).lt).lt
          clear x0 x1 x2 x3 y0 y1 y2 y3 hnm hh hx hd hB
          have hwz : ∃ wz, wz = wr := ⟨_, rfl⟩
          obtain ⟨wz, hwz⟩ := hwz
          subst hwz
          go_wp2
          go_loopw [5] (fun i wr => ∃ (j : Nat), j ≤ k ∧ i = .int .i64 j ∧ Hid (∀ m (hm : m < j) (hmk : m < ds.length), keyB ds[m].s ≠ keyB es) ∧ Below w9.heap.size w9 wr)
            (fun i _ => k - (intOf i).toNat)
          case atStart => exact ⟨0, by omega, rfl, fun m hm => absurd hm (by omega), bel0 w9⟩
          case round =>
            obtain ⟨j, hj, rfl, hdist, hbel9⟩ := hrel
            have b10 := belN b9 hbel9
            have hBr := hB9.below hbel9 hB9.lt
            have hIk := HI.out
            have v2 := hBr.get (x := .string es) 2 rfl
            have hnb : b ≠ wz.heap.size := by omega
            by_cases hjk : j < k
            · have hjI : (j : Int) < I := by omega
              have hjn : (j : Int) < (n : Int) := by omega
              have hj0 : (0 : Int) ≤ (j : Int) := by omega
              clear hIk
              obtain ⟨hjx, b2, o2, he2, _, _, _, u2, _⟩ := reads_ent (Hr.out.below b10) (k := j) (by omega)
              injection he2 with he2
              injection he2 with e3 e4
              subst e3
              subst e4
              have hsj := Hz.out _ (List.getElem_mem hjx)
              have Hgj := Lib.hid (show nameOkB ds[j].s = true by obtain ⟨_, h, _⟩ := hgood.out j hjk; exact (entOk_parts h).1)
              obtain ⟨sj, hsjx⟩ : ∃ sj, ds[j].s = sj := ⟨_, rfl⟩
              have Hsj := Lib.hid hsjx
              rw [hsjx] at u2 hsj Hgj
              clear hsjx
              rcases hal : alikeB sj es with _ | _
              · have Hal := Lib.hid (show keyB sj ≠ keyB es from fun h => by rw [(alikeB_eq Hgj.out Hnm.out).2 h] at hal; cases hal)
                go_wp2_with fail
                go_region_held3 (fun w' => w'.cell? ⟨b, o + j * 4 + 2, none⟩ = some (.string sj) ∧ w'.cell? ⟨wz.heap.size, 2, none⟩ = some (.string es)) (first | go_keep | (refine ⟨keep1 hb10 ?_, keep1 hb10 ?_⟩ <;> go_keep))
                  (first
                    | (go_at_call 63; refine (alike_spec sj es hsj hszk _).mono ?_; rintro e w10 ⟨rfl, hb10⟩))
                go_wp2
                go_roundw
                case rel =>
                  refine ⟨j + 1, by omega, by go_num, fun m hm hmk => ?_, belN hbel9.drew hb10⟩
                  rcases Nat.lt_or_ge m j with h | h
                  · exact hdist.out m h hmk
                  · have hmj : m = j := by omega
                    subst hmj
                    rw [Hsj.out]; exact Hal.out
                case measure => simp [intOf]; omega
              · have Hf := Lib.hid (not_good hkx fun hg => by
                  obtain ⟨_, _, _, h4⟩ := hg
                  have h5 := h4 j hjk
                  rw [He.out, Hsj.out] at h5
                  exact h5 ((alikeB_eq Hgj.out Hnm.out).1 hal))
                go_wp2_with fail
                go_region_held3 (fun w' => w'.cell? ⟨b, o + j * 4 + 2, none⟩ = some (.string sj) ∧ w'.cell? ⟨wz.heap.size, 2, none⟩ = some (.string es)) (first | go_keep | (refine ⟨keep1 hb10 ?_, keep1 hb10 ?_⟩ <;> go_keep))
                  (first
                    | (go_at_call 63; refine (alike_spec sj es hsj hszk _).mono ?_; rintro e w10 ⟨rfl, hb10⟩))
                go_wp2
                go_ret
                exact ⟨ret_bool Hf.out.symm, belN b10.drew hb10⟩
            · have hjI : ¬ (j : Int) < I := by omega
              have Hgd := Lib.hid (show GoodAt ds k from ⟨hkx, by rw [He.out]; exact Hok.out, Hbh.out, fun m hm => by rw [He.out]; exact hdist.out m (by omega) (by omega)⟩)
              clear hIk
              go_wp2
              go_roundw
              case rel =>
                refine ⟨k + 1, I + 1, by omega, by go_num, by have := HI.out; show _ = _; omega, fun m hm => ?_, b10⟩
                rcases Nat.lt_or_ge m k with h | h
                · exact hgood.out m h
                · rw [show m = k by omega]; exact Hgd.out
              case measure => simp [intOf]; omega
    · obtain rfl : k = n := by omega
      have Hf := Lib.hid (dirOkB_true (dirP_iff.2 ⟨by have := HL.out; omega, fun i hi => hgood.out i (by have := HL.out; omega)⟩))
      clear hI
      have hi1 : ¬ I < (k : Int) := by have := HI.out; omega
      go_wp2
      go_ret
      exact ⟨ret_bool Hf.out.symm, hbel⟩

end Go.Proofs.YtbchbmcphbeikaaGreatDoor
