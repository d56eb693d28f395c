/- Whether a directory is right, in the program: the walk. -/
import Derived.Test.YthdbomkddpnhaaaGreatDoorDir
namespace Go.Proofs.YthdbomkddpnhaaaGreatDoor
open Go Go.RowKit

/-- An entry stands right in its directory. -/
def GoodAt (ds : List EntD) (i : Nat) : Prop := ∃ h : i < ds.length, entOkB ds[i] = true ∧ (∀ (h1 : 0 < i), behB ds[i] (ds[i - 1]'(by omega)).h (ds[i - 1]'(by omega)).i = true) ∧ ∀ k (hk : k < i), keyB (ds[k]'(by omega)).s ≠ keyB ds[i].s
theorem dirP_iff {ds : List EntD} : DirP ds ↔ ds.length ≤ 12 ∧ ∀ i, i < ds.length → GoodAt ds i :=
  ⟨fun h => ⟨h.1, fun i hi => ⟨hi, h.2 i hi⟩⟩, fun h => ⟨h.1, fun i hi => by obtain ⟨_, h2⟩ := h.2 i hi; exact h2⟩⟩
theorem not_good {ds : List EntD} {i : Nat} (hi : i < ds.length) (h : ¬ GoodAt ds i) : dirOkB ds = false := dirOkB_false fun hp => h ((dirP_iff.1 hp).2 i hi)
theorem entOk_parts {e : EntD} (h : entOkB e = true) : nameOkB e.s = true ∧ (hashI e.s == e.h) = true ∧ inI e.i 0 12 = true ∧ inI e.d 1 100000 = true := by
  unfold entOkB at h
  simpa [Bool.and_eq_true] using h
theorem crc_q (s : ByteArray) (hs : s.size ≤ 1000000000) (w : World) : Calls Tryz.prog 222 #[.string s] w fun e w' => e = .returned (.int .i64 (crcB s)) ∧ w' = w :=
  (crc_impl s hs w).mono fun _ _ ⟨he, hw⟩ => ⟨he, hw.symm⟩
theorem containsS_q (A : Option Addr) (n c : Nat) (xs : List ByteArray) (q : ByteArray) (hn : n ≤ 10000000) (w : World) (hr : Reads w w.heap.size 1 A n (SS xs)) :
    Calls Tryz.prog 223 #[.slice A n c, .string q] w fun e w' => e = .returned (.bool (memB xs q)) ∧ w' = w :=
  (containsS_any A n c xs q hn w hr).mono fun _ _ ⟨he, hw⟩ => ⟨he, hw.symm⟩
theorem within_q (a b c : Int) (w : World) : Calls Tryz.prog 124 #[.int .i64 a, .int .i64 b, .int .i64 c] w fun e w' => e = .returned (.bool (inI a b c)) ∧ w' = w :=
  (within_any a b c w).mono fun _ _ ⟨he, hw⟩ => ⟨he, hw.symm⟩
theorem isId_q (x : Int) (w : World) : Calls Tryz.prog 224 #[.int .i64 x] w fun e w' => e = .returned (.bool (inI x 1 100000)) ∧ w' = w :=
  (isId_any x w).mono fun _ _ ⟨he, hw⟩ => ⟨he, hw.symm⟩
/-- The keys of the first so many. -/
noncomputable def keysL (ds : List EntD) (k : Nat) : List ByteArray := (ds.take k).map fun e => keyB e.s
theorem keysL_len (ds : List EntD) (k : Nat) (h : k ≤ ds.length) : (keysL ds k).length = k := by unfold keysL; rw [List.length_map, List.length_take]; omega
theorem keysL_succ (ds : List EntD) (k : Nat) (h : k < ds.length) : keysL ds (k + 1) = keysL ds k ++ [keyB ds[k].s] := by
  unfold keysL; rw [List.take_succ_eq_append_getElem h, List.map_append]; rfl
theorem keys_mem {ds : List EntD} {k : Nat} (h : k < ds.length) {q : ByteArray} : q ∈ keysL ds k ↔ ∃ j, ∃ hj : j < k, keyB (ds[j]'(by omega)).s = q := by
  unfold keysL
  rw [List.mem_map]
  constructor
  · rintro ⟨e, he, rfl⟩
    obtain ⟨j, hj, rfl⟩ := List.getElem_of_mem he
    rw [List.length_take] at hj
    exact ⟨j, by omega, by rw [List.getElem_take]⟩
  · rintro ⟨j, hj, rfl⟩
    exact ⟨ds[j]'(by omega), List.mem_iff_getElem.2 ⟨j, by rw [List.length_take]; omega, by rw [List.getElem_take]⟩, rfl⟩
theorem own_dN {w : World} {base : Nat} {e : TypeId} {size n : Nat} {v : Value} {xs : List Value} (h : w.ownsRow base e size v n xs) (k : Nat) : (w.drewN k).ownsRow base e size v n xs := h
theorem own_d {w : World} {base : Nat} {e : TypeId} {size n : Nat} {v : Value} {xs : List Value} (h : w.ownsRow base e size v n xs) : w.drew.ownsRow base e size v n xs := h

set_option maxRecDepth 100000 in
set_option maxHeartbeats 8000000 in
theorem dirOk_impl (A : Option Addr) (n c : Nat) (ds : List EntD) (hz : ∀ e ∈ ds, e.s.size ≤ 2000000) (w : World) (hT : Tab w) (hn : n ≤ 9223372036854775807) (hr : Reads w w.heap.size 4 A n (ES ds)) :
    Calls Tryz.prog 156 #[.slice A n c] w fun e w' => e = .returned (.bool (dirOkB ds)) ∧ Below w.heap.size w w' := by
  have hl : ds.length = n := by have := hr.1; rw [ES_length] at this; omega
  have Hr := Lib.hid hr
  have HT := Lib.hid hT
  have Hz := Lib.hid hz
  have HL := Lib.hid hl
  clear hr hT hz hl
  by_cases h12 : 12 < n
  · have Hf := Lib.hid (dirOkB_false (ds := ds) fun hp => by have := hp.1; have := HL.out; omega)
    go_enter Tryz.func156, Tryz.ntmps156
    go_wp2
    go_ret
    exact ⟨ret_bool Hf.out.symm, bel0 w⟩
  go_enter Tryz.func156, Tryz.ntmps156
  go_wp2
  go_loopw [3, 14] (fun v i wr => ∃ (k : Nat) (I : Int), k ≤ n ∧ i = .int .i64 I ∧ Hid (I = k) ∧ wr.ownsRow w.heap.size 9 1 v k (SS (keysL ds k)) ∧ Hid (∀ j, j < k → GoodAt ds j) ∧ Below w.heap.size w wr)
    (fun _ i _ => n - (intOf i).toNat)
  case atStart => exact ⟨0, 0, by omega, rfl, rfl, World.ownsRow_lit w #[] 0 (Nat.le_refl _) (by unfold maxLen; omega) rfl, fun j hj => absurd hj (by omega), belA (bel0 w) _⟩
  case round =>
    obtain ⟨k, I, hk, rfl, HI, hown, hgood, hbel⟩ := hrel
    have hsz := hbel.size
    have hI := HI.out
    have hi0 : 0 ≤ I := by omega
    have hi2 : I ≤ 12 := by omega
    by_cases hlt : k < n
    · have hi1 : I < (n : Int) := by omega
      have ht1 : I.toNat = k := by omega
      obtain ⟨hkx, b, o, rfl, hadb, z0, z1, z2, z3⟩ := reads_ent (Hr.out.below hbel) hlt
      have hszk := Hz.out _ (List.getElem_mem hkx)
      have Hks := Lib.hid (keysL_succ ds k hkx)
      have Hkl := Lib.hid (keysL_len ds k (by omega))
      have HDx : ∃ e, ds[k] = e := ⟨_, rfl⟩
      obtain ⟨e, he⟩ := HDx
      have He := Lib.hid he
      rw [he] at z0 z1 z2 z3 hszk Hks
      have bad : entOkB e = false → dirOkB ds = false := fun h => not_good hkx fun hg => by obtain ⟨_, h2, _⟩ := hg; rw [He.out, h] at h2; cases h2
      have dup : memB (keysL ds k) (keyB e.s) = true → dirOkB ds = false := fun h => not_good hkx fun hg => by
        obtain ⟨_, _, _, h2⟩ := hg
        obtain ⟨j, hj, he2⟩ := (keys_mem hkx).1 (memB_iff.1 h)
        exact h2 j hj (by rw [He.out]; exact he2)
      have Bad := Lib.hid bad
      have Dup := Lib.hid dup
      obtain ⟨KV, ok, hkv⟩ : ∃ KV ok, keyP e.s = (KV, ok) := ⟨_, _, rfl⟩
      have Hkv := Lib.hid hkv
      have hKz := keyP_size e.s
      have Hno := Lib.hid (keyP_2 e.s)
      rw [hkv] at hKz
      simp only at hKz
      obtain ⟨eh, ei, es, ed⟩ := e
      simp only at z0 z1 z2 z3 hszk
      have hne : b ≠ wr.heap.size := by omega
      clear hI bad dup he hkv
      go_wp2_with fail
      refine (keyOf_impl es hszk _ ((HT.out.below hbel HT.out.pos).al _)).mono ?_
      rintro e w1 ⟨rfl, hb1⟩
      rw [show keyP es = (KV, ok) from Hkv.out]
      simp only
      have hB := (Blk.new' wr 72 #[.int .i64 eh, .int .i64 ei, .string es, .int .i64 ed] wr.heap.size).below hb1 (by simp)
      have b1 := belN (belA hbel _) hb1
      have own1 := own_below (hown.alloc (.cells #[.int .i64 eh, .int .i64 ei, .string es, .int .i64 ed] 72)) hb1 (Nat.le_refl _)
      obtain ⟨A3, c3, rfl, _, _, hr3⟩ := own_vals own1
      have hblt := hB.lt
      have y0 := hB.get (x := .int .i64 eh) 0 rfl
      have y1 := hB.get (x := .int .i64 ei) 1 rfl
      have y2 := hB.get (x := .string es) 2 rfl
      have y3 := hB.get (x := .int .i64 ed) 3 rfl
      have Hr3 := Lib.hid hr3
      have Own1 := Lib.hid own1
      have hk12 : k ≤ 12 := by omega
      clear hown own1 hr3 z0 z1 z2 z3
      cases ok
      · have Hf := Lib.hid (Bad.out (by unfold entOkB; rw [← Hno.out, Hkv.out]; rfl))
        go_wp2_with fail
        go_quiet ((first
        | (go_at_call 222; exact Calls.quiet_of_same (crc_q _ (by omega) _))
        | (go_at_call 223; exact Calls.quiet_of_same (containsS_q _ _ _ _ _ (by omega) _ (Hr3.out.drewN _)))
        | (go_at_call 124; exact Calls.quiet_of_same (within_q _ _ _ _))
        | (go_at_call 224; exact Calls.quiet_of_same (isId_q _ _))))
        go_wp2
        go_ret
        exact ⟨ret_bool Hf.out.symm, below_drewN b1 _⟩
      have hnm := Lib.hid (show nameOkB es = true by have := Hno.out; rw [Hkv.out] at this; exact this.symm)
      have hKB := Lib.hid (show KV = keyB es by have := keyP_ok hnm.out; rw [Hkv.out] at this; injection this)
      have hcb := crcB_bd KV
      obtain ⟨hcb0, hcb1⟩ := hcb
      have hcr := Lib.hid (show hashI es = crcB KV % 16 by rw [hashI_ok hnm.out, hKB.out])
      rcases hh : (crcB KV % 16 != eh) with _ | _
      rotate_left
      · have Hf := Lib.hid (Bad.out (by unfold entOkB; rw [hcr.out, show (crcB KV % 16 == eh) = false by simpa [bne] using hh]; simp))
        go_wp2_with fail
        go_quiet ((first
        | (go_at_call 222; exact Calls.quiet_of_same (crc_q _ (by omega) _))
        | (go_at_call 223; exact Calls.quiet_of_same (containsS_q _ _ _ _ _ (by omega) _ (Hr3.out.drewN _)))
        | (go_at_call 124; exact Calls.quiet_of_same (within_q _ _ _ _))
        | (go_at_call 224; exact Calls.quiet_of_same (isId_q _ _))))
        go_wp2
        go_ret
        exact ⟨ret_bool Hf.out.symm, below_drewN b1 _⟩
      rcases hm : memB (keysL ds k) KV with _ | _
      rotate_left
      · have Hf := Lib.hid (Dup.out (by rw [← hKB.out]; exact hm))
        go_wp2_with fail
        go_quiet ((first
        | (go_at_call 222; exact Calls.quiet_of_same (crc_q _ (by omega) _))
        | (go_at_call 223; exact Calls.quiet_of_same (containsS_q _ _ _ _ _ (by omega) _ (Hr3.out.drewN _)))
        | (go_at_call 124; exact Calls.quiet_of_same (within_q _ _ _ _))
        | (go_at_call 224; exact Calls.quiet_of_same (isId_q _ _))))
        go_wp2
        go_ret
        exact ⟨ret_bool Hf.out.symm, below_drewN b1 _⟩
      rcases hx : inI ei 0 12 with _ | _
      · have Hf := Lib.hid (Bad.out (by unfold entOkB; rw [hx]; simp))
        go_wp2_with fail
        go_quiet ((first
        | (go_at_call 222; exact Calls.quiet_of_same (crc_q _ (by omega) _))
        | (go_at_call 223; exact Calls.quiet_of_same (containsS_q _ _ _ _ _ (by omega) _ (Hr3.out.drewN _)))
        | (go_at_call 124; exact Calls.quiet_of_same (within_q _ _ _ _))
        | (go_at_call 224; exact Calls.quiet_of_same (isId_q _ _))))
        go_wp2
        go_ret
        exact ⟨ret_bool Hf.out.symm, below_drewN b1 _⟩
      rcases hd : inI ed 1 100000 with _ | _
      · have Hf := Lib.hid (Bad.out (by unfold entOkB; rw [hd]; simp))
        go_wp2_with fail
        go_quiet ((first
        | (go_at_call 222; exact Calls.quiet_of_same (crc_q _ (by omega) _))
        | (go_at_call 223; exact Calls.quiet_of_same (containsS_q _ _ _ _ _ (by omega) _ (Hr3.out.drewN _)))
        | (go_at_call 124; exact Calls.quiet_of_same (within_q _ _ _ _))
        | (go_at_call 224; exact Calls.quiet_of_same (isId_q _ _))))
        go_wp2
        go_ret
        exact ⟨ret_bool Hf.out.symm, below_drewN b1 _⟩
      have Hok := Lib.hid (show entOkB ⟨eh, ei, es, ed⟩ = true by
        unfold entOkB; rw [hnm.out, hcr.out, hx, hd, show (crcB KV % 16 == eh) = true by simpa [bne] using hh]; rfl)
      have Hmem := Lib.hid hm
      go_wp2_with fail
      go_quiet ((first
        | (go_at_call 222; exact Calls.quiet_of_same (crc_q _ (by omega) _))
        | (go_at_call 223; exact Calls.quiet_of_same (containsS_q _ _ _ _ _ (by omega) _ (Hr3.out.drewN _)))
        | (go_at_call 124; exact Calls.quiet_of_same (within_q _ _ _ _))
        | (go_at_call 224; exact Calls.quiet_of_same (isId_q _ _))))
      rename Nat => nq1
      clear hh hm hx hd
      rcases Nat.eq_zero_or_pos k with hk0 | hk0
      · have hI0 : decide (0 < I) = false := by have := HI.out; simp; omega
        have Hgd := Lib.hid (show GoodAt ds k from ⟨hkx, by rw [He.out]; exact Hok.out, fun h => absurd h (by omega), fun j hj => absurd hj (by omega)⟩)
        have hbase := b1.size
        go_wp2_with fail
        go_quiet (fail)
        have own3 := own_dN Own1.out (nq1 + nq)
        have b3 := below_drewN b1 (nq1 + nq)
        go_wp2_with (at_builtin; go_must (refine wpList_app _ rfl _ _ _ rfl Tryz.el_str (own3.alloc _) rfl (reads_new _ _ _ _ 1 (by rfl)) rfl (by simp [Value.oneCell']) (max_small (by omega)) (by omega) (by simp; omega) ?_); intro v5 w5 own5 hg5 _ hb5)
        go_roundw
        case rel =>
          refine ⟨k + 1, I + 1, by omega, by go_num, by have := HI.out; show _ = _; omega, ?_, fun j hj => ?_, (belA b3 _).trans hb5⟩
          · rw [Hks.out, ← hKB.out, SS_append]; exact own5
          · rcases Nat.lt_or_ge j k with h | h
            · exact hgood.out j h
            · rw [show j = k by omega]; exact Hgd.out
        case measure => simp [intOf]; omega
      · obtain ⟨p, hp⟩ : ∃ p, k = p + 1 := ⟨k - 1, by omega⟩
        have Hp := Lib.hid hp
        have hbelw := (belA hbel (.cells #[.int .i64 eh, .int .i64 ei, .string es, .int .i64 ed] 72)).trans (hb1.mono (by simp; omega))
        obtain ⟨hpx, b', o', he', _, x0, x1, _, _⟩ := reads_ent (Hr.out.below hbelw) (k := p) (by omega)
        injection he' with he'
        injection he' with e1 e2
        subst e1
        subst e2
        have w1' : IntKind.i64.wrap (I - 1) = (p : Int) := by rw [IntWalk.i64_in _ (by omega)]; have := HI.out; omega
        have w2' : I - 1 = (p : Int) := by have := HI.out; omega
        have w3' : IntKind.i64.wrap (p : Int) = (p : Int) := IntWalk.i64_in _ (by omega)
        have p0 : (0 : Int) ≤ ↑p := by omega
        have p1 : (p : Int) < ↑n := by omega
        have hI2 : 0 < I := by have := HI.out; omega
        have hne2 : b ≠ wr.heap.size := by omega
        clear hp
        rcases hbh : behB ⟨eh, ei, es, ed⟩ ds[p].h ds[p].i with _ | _
        · have Hf := Lib.hid (not_good hkx fun hg => by
            obtain ⟨_, _, h3, _⟩ := hg
            have h4 := h3 hk0
            have hpp : k - 1 = p := by have := Hp.out; omega
            simp only [hpp, He.out] at h4
            rw [hbh] at h4; cases h4)
          go_wp2_with fail
          go_region_held3 (fun w' => w'.cell? ⟨wr.heap.size, 0, none⟩ = some (.int .i64 eh) ∧ w'.cell? ⟨wr.heap.size, 1, none⟩ = some (.int .i64 ei) ∧ w'.cell? ⟨wr.heap.size, 2, none⟩ = some (.string es) ∧ w'.cell? ⟨wr.heap.size, 3, none⟩ = some (.int .i64 ed) ∧ w'.cell? ⟨b, o + p * 4, none⟩ = some (.int .i64 ds[p].h) ∧ w'.cell? ⟨b, o + p * 4 + 1, none⟩ = some (.int .i64 ds[p].i))
            (first | go_keep | (refine ⟨keep1 hb9 ?_, keep1 hb9 ?_, keep1 hb9 ?_, keep1 hb9 ?_, keep1 hb9 ?_, keep1 hb9 ?_⟩ <;> go_keep))
            (first
              | (go_at_call 225; refine (isBehind_any ⟨eh, ei, es, ed⟩ _ _ _).mono ?_; rintro e w9 ⟨rfl, hb9⟩))
          go_wp2
          go_ret
          exact ⟨ret_bool Hf.out.symm, belN (below_drewN b1 _).drew hb9⟩
        · have Hgd := Lib.hid (show GoodAt ds k from by
            refine ⟨hkx, by rw [He.out]; exact Hok.out, fun h1 => ?_, fun j hj he2 => ?_⟩
            · have hpp : k - 1 = p := by have := Hp.out; omega
              simp only [hpp, He.out]; exact hbh
            · rw [He.out] at he2
              exact memB_no Hmem.out ((keys_mem hkx).2 ⟨j, hj, by rw [hKB.out]; exact he2⟩))
          go_wp2_with fail
          go_region_held3 (fun w' => w'.cell? ⟨wr.heap.size, 0, none⟩ = some (.int .i64 eh) ∧ w'.cell? ⟨wr.heap.size, 1, none⟩ = some (.int .i64 ei) ∧ w'.cell? ⟨wr.heap.size, 2, none⟩ = some (.string es) ∧ w'.cell? ⟨wr.heap.size, 3, none⟩ = some (.int .i64 ed) ∧ w'.cell? ⟨b, o + p * 4, none⟩ = some (.int .i64 ds[p].h) ∧ w'.cell? ⟨b, o + p * 4 + 1, none⟩ = some (.int .i64 ds[p].i))
            (first | go_keep | (refine ⟨keep1 hb9 ?_, keep1 hb9 ?_, keep1 hb9 ?_, keep1 hb9 ?_, keep1 hb9 ?_, keep1 hb9 ?_⟩ <;> go_keep))
            (first
              | (go_at_call 225; refine (isBehind_any ⟨eh, ei, es, ed⟩ _ _ _).mono ?_; rintro e w9 ⟨rfl, hb9⟩))
          have own9 := own_below (own_d (own_dN Own1.out nq1)) hb9 (Nat.le_refl _)
          have hbase : w.heap.size ≤ w9.heap.size := Nat.le_trans b1.size hb9.size
          clear x0 x1 y0 y1 y2 y3
          go_wp2_with (at_builtin; go_must (refine wpList_app _ rfl _ _ _ rfl Tryz.el_str (own9.alloc _) rfl (reads_new _ _ _ _ 1 (by rfl)) rfl (by simp [Value.oneCell']) (max_small (by omega)) (by omega) (by simp; omega) ?_); intro v5 w5 own5 hg5 _ hb5)
          go_roundw
          case rel =>
            refine ⟨k + 1, I + 1, by omega, by go_num, by have := HI.out; show _ = _; omega, ?_, fun j hj => ?_, (belA (belN (below_drewN b1 _).drew hb9) _).trans hb5⟩
            · rw [Hks.out, ← hKB.out, SS_append]; exact own5
            · rcases Nat.lt_or_ge j k with h | h
              · exact hgood.out j h
              · rw [show j = k by omega]; exact Hgd.out
          case measure => simp [intOf]; omega
    · obtain rfl : k = n := by omega
      have Hf := Lib.hid (dirOkB_true (dirP_iff.2 ⟨by have := HL.out; omega, fun i hi => hgood.out i (by have := HL.out; omega)⟩))
      clear hI
      have hi1 : ¬ I < (k : Int) := by have := HI.out; omega
      go_wp2
      go_ret
      exact ⟨ret_bool Hf.out.symm, hbel⟩

end Go.Proofs.YthdbomkddpnhaaaGreatDoor
