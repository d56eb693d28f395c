/- Records, homes, looking. -/
import Derived.Test.YtjjniapamdleoaaGreatDoorRCBase
import Derived.Deep.RegionHeld3
import Derived.Test.YtjjniapamdleoaaGreatDoorRCDp
namespace Go.Proofs.YtjjniapamdleoaaGreatDoor
open Go Go.RowKit
set_option maxHeartbeats 2000000
set_option maxRecDepth 100000

/-- A text behind its length. -/
def pieceB (s : ByteArray) : ByteArray := varB (s.size : Int) ++ s
theorem eqS_self (a b : ByteArray) : (a.toList == b.toList) = true ↔ a = b := by
 rw [beq_iff_eq, ByteArray.toList_eq, ByteArray.toList_eq]
 exact ⟨bytes_ext, fun h => by rw [h]⟩
noncomputable def keyIs (key : ByteArray) (e : EntD) : Bool := (keyP e.s).1.toList == key.toList
/-- Where the first entry of a kind stands. -/
def IdxE (ds : List EntD) (p : EntD -> Bool) (r : Int) : Prop := (r = -1 /\ ds.find? p = none) ∨ ∃ k, ∃ hk : k < ds.length, r = (k : Int) /\ ds.find? p = some ds[k]

theorem entAt_clo (e : EntD) (hz : e.s.size <= 2000000) (B : Nat) (key : ByteArray) (w : World) (hT : Tab w) (hB : w.cell? ⟨B, 0, none⟩ = some (.string key)) :
  Calls Tryz.prog 231 #[e.val, .pointer (some ⟨B, 0, none⟩)] w fun r w' => r = .returned (.bool (keyIs key e)) /\ Below w.heap.size w w' := by
 obtain ⟨eh, ei, es, ed⟩ := e
 simp only [EntD.val, keyIs] at hz ⊢
 have HT := Lib.hid hT
 have hlt := World.block_lt_of_cell? _ _ hB
 simp only at hlt
 clear hT
 go_enter Tryz.func231, Tryz.ntmps231
 go_wp2_with fail
 refine (keyOf_impl es hz _ (HT.out.al _)).mono ?_
 rintro r w1 ⟨rfl, hb1⟩
 have hB1 := kp_ (belN (belA (bel0 w) _) hb1) hB
 have b1 := belN (belA (bel0 w) _) hb1
 clear hB
 go_wp2
 go_ret
 exact ⟨rfl, b1⟩

theorem indexFunc_entAt (A : Option Addr) (n c : Nat) (ds : List EntD) (hz : ∀ e ∈ ds, e.s.size <= 2000000) (hn : n <= 9223372036854775807) (B : Nat) (key : ByteArray) (w : World) (hT : Tab w) (hB : w.cell? ⟨B, 0, none⟩ = some (.string key)) (hr : Reads w w.heap.size 4 A n (ES ds)) :
  Calls Tryz.prog 144 #[.slice A n c, .func (.func 231) #[] #[.pointer (some ⟨B, 0, none⟩)]] w fun e w' => ∃ r : Int, e = .returned (.int .i64 r) /\ IdxE ds (keyIs key) r /\ Below w.heap.size w w' := by
 have hl : ds.length = n := by have := hr.1; rw [ES_length] at this; omega
 have Hr := Lib.hid hr
 have HL := Lib.hid hl
 have HT := Lib.hid hT
 have HB := Lib.hid hB
 have Hz := Lib.hid hz
 clear hr hl hT hB hz
 go_enter Tryz.func144, Tryz.ntmps144
 go_wp2
 go_loopw [8] (fun i wr => ∃ (k : Nat), k <= n /\ i = .int .i64 k /\ Hid ((ds.take k).find? (keyIs key) = none) /\ Below w.heap.size w wr)
  (fun i _ => n - (intOf i).toNat)
 case atStart => exact ⟨0, by omega, rfl, by simp [Hid], bel0 w⟩
 case round =>
  obtain ⟨k, hk, rfl, hnone, hbel⟩ := hrel
  by_cases hlt : k < n
  ·obtain ⟨hkx, b, o, rfl, hadb, z0, z1, z2, z3⟩ := reads_ent (Hr.out.below hbel) hlt
   have q0 : (0 : Int) <= ↑k := by omega
   have q1 : (↑k : Int) < ↑n := by omega
   have hts := Lib.hid (List.take_succ_eq_append_getElem hkx)
   have hdr := Lib.hid (show ds = ds.take k ++ ds[k] :: ds.drop (k + 1) by rw [<- List.drop_eq_getElem_cons hkx, List.take_append_drop])
   have hzk := Hz.out _ (List.getElem_mem hkx)
   obtain ⟨e, he⟩ : ∃ e, ds[k] = e := ⟨_, rfl⟩
   have He := Lib.hid he
   rw [he] at z0 z1 z2 z3 hts hdr hzk
   clear he
   rcases hp : keyIs key e with _ | _
   ·have Hm := Lib.hid (find_miss (p := keyIs key) hnone.out hp)
    go_wp2_with fail
    refine (entAt_clo e hzk B key _ (HT.out.below hbel HT.out.pos) (kp_ hbel HB.out)).mono ?_
    rintro r w2 ⟨rfl, hb2⟩
    rw [hp]
    go_wp2
    go_roundw
    case rel => exact ⟨k + 1, by omega, by go_num, by show _ = _; rw [hts.out]; exact Hm.out, belN hbel hb2⟩
    case measure => simp [intOf]; omega
   ·have Hf := Lib.hid (show ds.find? (keyIs key) = some e by rw [hdr.out]; exact find_hit (p := keyIs key) hnone.out hp)
    go_wp2_with fail
    refine (entAt_clo e hzk B key _ (HT.out.below hbel HT.out.pos) (kp_ hbel HB.out)).mono ?_
    rintro r w2 ⟨rfl, hb2⟩
    rw [hp]
    go_wp2
    go_ret
    exact ⟨_, rfl, .inr ⟨k, hkx, rfl, by rw [Hf.out, He.out]⟩, belN hbel hb2⟩
  ·have Hf := Lib.hid (show ds.find? (keyIs key) = none by have := hnone.out; rwa [List.take_of_length_le (by have := HL.out; omega)] at this)
   go_wp2
   go_ret
   exact ⟨_, rfl, .inl ⟨rfl, Hf.out⟩, hbel⟩

/-- Where entAt finds a name. -/
def AtPost (ds : List EntD) (s : ByteArray) (r : Int) : Prop := (nameOkB s = false /\ r = -1) ∨ (nameOkB s = true /\ IdxE ds (keyIs (keyB s)) r)

theorem entAt_impl (A : Option Addr) (n c : Nat) (ds : List EntD) (hz : ∀ e ∈ ds, e.s.size <= 2000000) (hn : n <= 9223372036854775807) (s : ByteArray) (hs : s.size <= 2000000) (w : World) (hT : Tab w) (hr : Reads w w.heap.size 4 A n (ES ds)) :
  Calls Tryz.prog 190 #[.slice A n c, .string s] w fun e w' => ∃ r : Int, e = .returned (.int .i64 r) /\ AtPost ds s r /\ Below w.heap.size w w' := by
 have Hr := Lib.hid hr
 have HT := Lib.hid hT
 have Hz := Lib.hid hz
 have hmf : ∀ (fn : Fn) (first cap : Array Value) (w : World), (Instr.makeFunc fn first cap).run Tryz.prog w = .ok (.func fn first cap) w := fun _ _ _ _ => rfl
 clear hr hT hz
 rcases hn' : nameOkB s with _ | _
 ·have Hk := Lib.hid (keyP_no hn')
  have Hn := Lib.hid hn'
  clear hn'
  go_enter Tryz.func190, Tryz.ntmps190
  go_wp2_with fail
  refine (keyOf_impl s hs _ HT.out).mono ?_
  rintro e w1 ⟨rfl, hb1⟩
  rw [Hk.out]
  simp only
  go_wp2
  go_ret
  exact ⟨_, rfl, .inl ⟨Hn.out, rfl⟩, belA hb1 _⟩
 ·have Hk := Lib.hid (keyP_ok hn')
  have Hn := Lib.hid hn'
  clear hn'
  obtain ⟨key, hkey⟩ : ∃ key, keyB s = key := ⟨_, rfl⟩
  have Hkey := Lib.hid hkey
  rw [hkey] at Hk
  clear hkey
  go_enter Tryz.func190, Tryz.ntmps190
  go_wp2_with fail
  refine (keyOf_impl s hs _ HT.out).mono ?_
  rintro e w1 ⟨rfl, hb1⟩
  rw [Hk.out]
  simp only
  go_wp2_with fail
  have hBk := Blk.new' w1 9 #[.string key] w1.heap.size
  refine (indexFunc_entAt A n c ds Hz.out hn w1.heap.size key _ ((HT.out.bl hb1).al _) (hBk.get 0 rfl) ((Hr.out.below (belA hb1 _)).more (by have := hb1.size; simp; omega))).mono ?_
  rintro e w2 ⟨r, rfl, hidx, hb2⟩
  have Hidx := Lib.hid hidx
  clear hidx hBk
  go_wp2
  go_ret
  exact ⟨_, rfl, .inr ⟨Hn.out, by rw [Hkey.out]; exact Hidx.out⟩, belN (belA hb1 _) hb2⟩

theorem l5At_any (A : Option Addr) (n c : Nat) (ds : List EntD) (hz : ∀ e ∈ ds, e.s.size <= 2000000) (hn : n <= 9223372036854775807) (s : ByteArray) (hs : s.size <= 2000000) (w : World) (hr : Reads w w.heap.size 4 A n (ES ds)) :
  Calls Tryz.prog 219 #[.slice A n c, .string s] w fun e w' => ∃ r : Int, e = .returned (.int .i64 r) /\ IdxE ds (fun e => alikeB e.s s) r /\ Below w.heap.size w w' := by
 have hl : ds.length = n := by have := hr.1; rw [ES_length] at this; omega
 have Hr := Lib.hid hr
 have HL := Lib.hid hl
 have Hz := Lib.hid hz
 clear hr hl hz
 go_enter Tryz.func219, Tryz.ntmps219
 go_wp2
 go_loopw [5] (fun i wr => ∃ (k : Nat), k <= n /\ i = .int .i64 k /\ Hid ((ds.take k).find? (fun e => alikeB e.s s) = none) /\ Below w.heap.size w wr)
  (fun i _ => n - (intOf i).toNat)
 case atStart => exact ⟨0, by omega, rfl, by simp [Hid], bel0 w⟩
 case round =>
  obtain ⟨k, hk, rfl, hnone, hbel⟩ := hrel
  by_cases hlt : k < n
  ·obtain ⟨hkx, b, o, rfl, hadb, z0, z1, z2, z3⟩ := reads_ent (Hr.out.below hbel) hlt
   have q0 : (0 : Int) <= ↑k := by omega
   have q1 : (↑k : Int) < ↑n := by omega
   have hts := Lib.hid (List.take_succ_eq_append_getElem hkx)
   have hdr := Lib.hid (show ds = ds.take k ++ ds[k] :: ds.drop (k + 1) by rw [<- List.drop_eq_getElem_cons hkx, List.take_append_drop])
   have hzk := Hz.out _ (List.getElem_mem hkx)
   obtain ⟨e, he⟩ : ∃ e, ds[k] = e := ⟨_, rfl⟩
   have He := Lib.hid he
   rw [he] at z0 z1 z2 z3 hts hdr hzk
   clear he
   rcases hp : alikeB e.s s with _ | _
   ·have Hm := Lib.hid (find_miss (p := fun e => alikeB e.s s) hnone.out hp)
    go_wp2_with fail
    refine (alike_spec e.s s hzk hs _).mono ?_
    rintro r w2 ⟨rfl, hb2⟩
    rw [hp]
    go_wp2
    go_roundw
    case rel => exact ⟨k + 1, by omega, by go_num, by show _ = _; rw [hts.out]; exact Hm.out, belN hbel hb2⟩
    case measure => simp [intOf]; omega
   ·have Hf := Lib.hid (show ds.find? (fun e => alikeB e.s s) = some e by rw [hdr.out]; exact find_hit (p := fun e => alikeB e.s s) hnone.out hp)
    go_wp2_with fail
    refine (alike_spec e.s s hzk hs _).mono ?_
    rintro r w2 ⟨rfl, hb2⟩
    rw [hp]
    go_wp2
    go_ret
    exact ⟨_, rfl, .inr ⟨k, hkx, rfl, by rw [Hf.out, He.out]⟩, belN hbel hb2⟩
  ·have Hf := Lib.hid (show ds.find? (fun e => alikeB e.s s) = none by have := hnone.out; rwa [List.take_of_length_le (by have := HL.out; omega)] at this)
   go_wp2
   go_ret
   exact ⟨_, rfl, .inl ⟨rfl, Hf.out⟩, hbel⟩

/-- The entry of a name. -/
noncomputable def lookP (ds : List EntD) (s : ByteArray) : EntD × Bool := if dirOkB ds = true then (match ds.find? (fun e => alikeB e.s s) with | some e => (e, true) | none => (EntD.zero, false)) else (EntD.zero, false)
theorem lookP_bad {ds : List EntD} {s : ByteArray} (h : dirOkB ds = false) : lookP ds s = (EntD.zero, false) := by unfold lookP; rw [if_neg (by rw [h]; simp)]
theorem lookP_some {ds : List EntD} {s : ByteArray} {e : EntD} (h : dirOkB ds = true) (hf : ds.find? (fun e => alikeB e.s s) = some e) : lookP ds s = (e, true) := by unfold lookP; rw [if_pos h, hf]
theorem lookP_none {ds : List EntD} {s : ByteArray} (h : dirOkB ds = true) (hf : ds.find? (fun e => alikeB e.s s) = none) : lookP ds s = (EntD.zero, false) := by unfold lookP; rw [if_pos h, hf]
theorem find_same {p q : EntD -> Bool} : ∀ (l : List EntD), (∀ e ∈ l, p e = q e) -> l.find? p = l.find? q
 | [], _ => rfl
 | a :: l, h => by rw [List.find?_cons, List.find?_cons, h a (by simp), find_same l (fun e he => h e (by simp [he]))]
theorem dir_names {ds : List EntD} (h : dirOkB ds = true) : ∀ e ∈ ds, nameOkB e.s = true := fun e he => by
 obtain ⟨k, hk, rfl⟩ := List.getElem_of_mem he
 obtain ⟨_, h2, _⟩ := (dirP_iff.1 (dirOkB_iff.1 h)).2 k hk
 exact (entOk_parts h2).1
theorem key_alike {ds : List EntD} {s : ByteArray} (h : dirOkB ds = true) (hs : nameOkB s = true) : ds.find? (keyIs (keyB s)) = ds.find? (fun e => alikeB e.s s) := by
 refine find_same ds fun e he => ?_
 have hn := dir_names h e he
 rw [Bool.eq_iff_iff, alikeB_eq hn hs]
 unfold keyIs
 rw [keyP_ok hn]
 exact eqS_self _ _
theorem alike_no {ds : List EntD} {s : ByteArray} (hs : nameOkB s = false) : ds.find? (fun e => alikeB e.s s) = none := by
 rw [List.find?_eq_none]
 intro e _
 unfold alikeB
 rw [hs]; simp
/-- In a right directory entAt and l5At are one. -/
theorem at_idx {ds : List EntD} {s : ByteArray} {r : Int} (h : dirOkB ds = true) (ha : AtPost ds s r) : IdxE ds (fun e => alikeB e.s s) r := by
 rcases ha with ⟨h1, rfl⟩ | ⟨h1, h2⟩
 ·exact .inl ⟨rfl, alike_no h1⟩
 ·rcases h2 with ⟨h3, h4⟩ | ⟨k, hk, h3, h4⟩
  ·exact .inl ⟨h3, by rw [<- key_alike h h1]; exact h4⟩
  ·exact .inr ⟨k, hk, h3, by rw [<- key_alike h h1]; exact h4⟩
theorem at_neg {ds : List EntD} {s : ByteArray} {r : Int} (ha : AtPost ds s r) : r = -1 ∨ ∃ k, k < ds.length /\ r = (k : Int) := by
 rcases ha with ⟨_, rfl⟩ | ⟨_, h2⟩
 ·exact .inl rfl
 ·rcases h2 with ⟨h3, _⟩ | ⟨k, hk, h3, _⟩
  ·exact .inl h3
  ·exact .inr ⟨k, hk, h3⟩

end Go.Proofs.YtjjniapamdleoaaGreatDoor
