/- DpNext, DpOk. -/
import Derived.Test.YtjjniapamdleoaaGreatDoorRCDir
import Derived.Test.YtjjniapamdleoaaGreatDoorRCStrs
import Derived.Test.YtjjniapamdleoaaGreatDoorRCIsPg
namespace Go.Proofs.YtjjniapamdleoaaGreatDoor
open Go Go.RowKit
set_option maxHeartbeats 4000000
set_option maxRecDepth 100000

def EntD.zero : EntD := ⟨0, 0, ⟨#[]⟩, 0⟩
/-- An entry and whether there is one. -/
def EntPost (P : EntD × Bool) (e : Ending) : Prop := ∃ E fb, P = (E, fb) /\ e = .returned (.tuple #[.agg #[.int .i64 E.h, .int .i64 E.i, .string E.s, .int .i64 E.d], .bool fb])
theorem entPost_end {P : EntD × Bool} {E : EntD} {fb : Bool} {v : Value} (h : P = (E, fb)) (hv : v = .tuple #[.agg #[.int .i64 E.h, .int .i64 E.i, .string E.s, .int .i64 E.d], .bool fb]) : EntPost P (.returned v) := ⟨E, fb, h, by rw [hv]⟩
/-- The first entry behind a place. -/
noncomputable def nxtP (ds : List EntD) (x y : Int) : EntD × Bool := if dirOkB ds = true then (match ds.find? (fun e => behB e x y) with | some e => (e, true) | none => (EntD.zero, false)) else (EntD.zero, false)
theorem nxtP_bad {ds : List EntD} {x y : Int} (h : dirOkB ds = false) : nxtP ds x y = (EntD.zero, false) := by unfold nxtP; rw [if_neg (by rw [h]; simp)]
theorem nxtP_some {ds : List EntD} {x y : Int} {e : EntD} (h : dirOkB ds = true) (hf : ds.find? (fun e => behB e x y) = some e) : nxtP ds x y = (e, true) := by unfold nxtP; rw [if_pos h, hf]
theorem nxtP_none {ds : List EntD} {x y : Int} (h : dirOkB ds = true) (hf : ds.find? (fun e => behB e x y) = none) : nxtP ds x y = (EntD.zero, false) := by unfold nxtP; rw [if_pos h, hf]
theorem beh_less {e : EntD} {x y : Int} : behB e x y = (!lessB e x y && ((e.h != x) || (e.i != y))) := by
 unfold behB lessB
 rw [Bool.eq_iff_iff]
 simp only [Bool.or_eq_true, Bool.and_eq_true, decide_eq_true_eq, Bool.not_eq_true', bne_iff_ne, ne_eq, Bool.or_eq_false_iff, Bool.and_eq_false_iff, decide_eq_false_iff_not]
 omega
theorem dir12 {ds : List EntD} (h : dirOkB ds = true) : ds.length <= 12 := (dirOkB_iff.1 h).1

theorem next_impl (A : Option Addr) (n c : Nat) (ds : List EntD) (x y : Int) (hz : ∀ e ∈ ds, e.s.size <= 2000000) (w : World) (hT : Tab w) (hn : n <= 9223372036854775807) (hr : Reads w w.heap.size 4 A n (ES ds)) :
  Calls Tryz.prog 84 #[.slice A n c, .int .i64 x, .int .i64 y] w fun e w' => EntPost (nxtP ds x y) e /\ Below w.heap.size w w' := by
 have hl : ds.length = n := by have := hr.1; rw [ES_length] at this; omega
 have Hr := Lib.hid hr
 have HL := Lib.hid hl
 have HT := Lib.hid hT
 clear hT
 clear hr hl
 rcases hok : dirOkB ds with _ | _
 ·have Hf := Lib.hid (nxtP_bad (x := x) (y := y) hok)
  have Hok := Lib.hid hok
  clear hok
  go_enter Tryz.func84, Tryz.ntmps84
  go_wp2_with fail
  refine (dirOk_impl A n c ds hz _ (HT.out.al _) hn ((Hr.out.below (belA (bel0 w) _)).more (by simp))).mono ?_
  rintro e w1 ⟨rfl, hb1⟩
  rw [Hok.out]
  have hB := (Blk.new' w 38 #[.int .i64 0, .int .i64 0, .string ⟨#[]⟩, .int .i64 0] w.heap.size).below hb1 (by simp)
  obtain ⟨c0, c1, c2, c3⟩ := hB.g4
  obtain ⟨f0, f1, f2, f3⟩ := hB.f4
  have hlt := hB.lt
  have b1 := belN (belA (bel0 w) _) hb1
  go_wp2
  refine bodyPost_ret (v := .tuple #[.agg #[.int .i64 0, .int .i64 0, .string ⟨#[]⟩, .int .i64 0], .bool false]) (by simp [results, Tryz.results84, go_sem, c0, c1, c2, c3]) rfl ⟨entPost_end Hf.out rfl, ?_⟩
  repeat (first | exact b1 | apply Below.drew | refine belA ?_ _ | refine belC ?_ _ _ (by omega) _)
 ·have h12 : n <= 12 := by have := dir12 hok; have := HL.out; omega
  have Hok := Lib.hid hok
  clear hok
  go_enter Tryz.func84, Tryz.ntmps84
  go_wp2_with fail
  refine (dirOk_impl A n c ds hz _ (HT.out.al _) hn ((Hr.out.below (belA (bel0 w) _)).more (by simp))).mono ?_
  rintro e w1 ⟨rfl, hb1⟩
  rw [Hok.out]
  have HB1 := Lib.hid ((Blk.new' w 38 #[.int .i64 0, .int .i64 0, .string ⟨#[]⟩, .int .i64 0] w.heap.size).below hb1 (by simp))
  have b1 := belN (belA (bel0 w) _) hb1
  go_wp2
  go_loopw [16] (fun i wr => ∃ (k : Nat), k <= n /\ i = .int .i64 k /\ Hid ((ds.take k).find? (fun e => behB e x y) = none) /\ Below w1.heap.size w1 wr)
   (fun i _ => n - (intOf i).toNat)
  case atStart => exact ⟨0, by omega, rfl, by simp [Hid], bel0 w1⟩
  case round =>
   obtain ⟨k, hk, rfl, hnone, hbel⟩ := hrel
   have hBr := HB1.out.below hbel HB1.out.lt
   have belr := belN b1 hbel
   have hlt0 := hBr.lt
   obtain ⟨c0, c1', c2, c3⟩ := hBr.g4
   obtain ⟨f0, f1, f2, f3⟩ := hBr.f4
   have ne : w.heap.size ≠ wr.heap.size := by omega
   have ne' : wr.heap.size ≠ w.heap.size := by omega
   by_cases hlt : k < n
   ·obtain ⟨hkx, b, o, rfl, hadb, z0, z1, z2, z3⟩ := reads_ent (Hr.out.below belr) hlt
    have q0 : (0 : Int) <= ↑k := by omega
    have q1 : (↑k : Int) < ↑n := by omega
    have hts := Lib.hid (List.take_succ_eq_append_getElem hkx)
    have hdr := Lib.hid (show ds = ds.take k ++ ds[k] :: ds.drop (k + 1) by rw [<- List.drop_eq_getElem_cons hkx, List.take_append_drop])
    obtain ⟨e, he⟩ : ∃ e, ds[k] = e := ⟨_, rfl⟩
    rw [he] at z0 z1 z2 z3 hts hdr
    clear he
    have nb : b ≠ wr.heap.size := by omega
    have nb2 : b ≠ w.heap.size := by omega
    rcases hbh : behB e x y with _ | _
    ·have Hm := Lib.hid (find_miss (p := fun e => behB e x y) hnone.out hbh)
     go_wp2_with fail
     refine (isBehind_any e x y _).mono ?_
     rintro r w2 ⟨rfl, hb2⟩
     rw [hbh]
     go_wp2
     go_roundw
     case rel => exact ⟨k + 1, by omega, by go_num, by show _ = _; rw [hts.out]; exact Hm.out, belN (belA hbel _) hb2⟩
     case measure => simp [intOf]; omega
    ·have Hf := Lib.hid (nxtP_some (x := x) (y := y) Hok.out (show ds.find? (fun e => behB e x y) = some e by rw [hdr.out]; exact find_hit (p := fun e => behB e x y) hnone.out hbh))
     go_wp2_with fail
     refine (isBehind_any e x y _).mono ?_
     rintro r w2 ⟨rfl, hb2⟩
     rw [hbh]
     have hB2 := (hBr.alloc (.cells #[.int .i64 e.h, .int .i64 e.i, .string e.s, .int .i64 e.d] 38)).below hb2 (by simp; omega)
     have hE2 := (Blk.new' wr 38 #[.int .i64 e.h, .int .i64 e.i, .string e.s, .int .i64 e.d] wr.heap.size).below hb2 (by simp)
     have b2 := belN (belA belr (.cells #[.int .i64 e.h, .int .i64 e.i, .string e.s, .int .i64 e.d] 38)) hb2
     clear c0 c1' c2 c3 f0 f1 f2 f3 z0 z1 z2 z3
     obtain ⟨c0, c1, c2, c3⟩ := hB2.g4
     obtain ⟨f0, f1, f2, f3⟩ := hB2.f4
     have d0 := hE2.get (x := .int .i64 e.h) 0 rfl
     have d1 := hE2.get (x := .int .i64 e.i) 1 rfl
     have d2 := hE2.get (x := .string e.s) 2 rfl
     have d3 := hE2.get (x := .int .i64 e.d) 3 rfl
     have hlt2 := hB2.lt
     have hlt3 := hE2.lt
     have hF := (((hB2.put 0 (.int .i64 e.h) #[.int .i64 e.h, .int .i64 0, .string ⟨#[]⟩, .int .i64 0] rfl).put 1 (.int .i64 e.i) #[.int .i64 e.h, .int .i64 e.i, .string ⟨#[]⟩, .int .i64 0] rfl).put 2 (.string e.s) #[.int .i64 e.h, .int .i64 e.i, .string e.s, .int .i64 0] rfl).put 3 (.int .i64 e.d) #[.int .i64 e.h, .int .i64 e.i, .string e.s, .int .i64 e.d] rfl
     have r0 := Lib.hid (hF.get (x := .int .i64 e.h) 0 rfl)
     have r1 := Lib.hid (hF.get (x := .int .i64 e.i) 1 rfl)
     have r2 := Lib.hid (hF.get (x := .string e.s) 2 rfl)
     have r3 := Lib.hid (hF.get (x := .int .i64 e.d) 3 rfl)
     go_wp2
     refine bodyPost_ret (v := .tuple #[.agg #[.int .i64 e.h, .int .i64 e.i, .string e.s, .int .i64 e.d], .bool true]) (by simp [results, Tryz.results84, go_sem, r0.out, r1.out, r2.out, r3.out]) rfl ⟨entPost_end Hf.out rfl, ?_⟩
     repeat (first | exact b2 | apply Below.drew | refine belA ?_ _ | refine belC ?_ _ _ (by omega) _)
   ·have Hf := Lib.hid (nxtP_none (x := x) (y := y) Hok.out (by have := hnone.out; rwa [List.take_of_length_le (by have := HL.out; omega)] at this))
    go_wp2
    refine bodyPost_ret (v := .tuple #[.agg #[.int .i64 0, .int .i64 0, .string ⟨#[]⟩, .int .i64 0], .bool false]) (by simp [results, Tryz.results84, go_sem, c0, c1', c2, c3]) rfl ⟨entPost_end Hf.out rfl, ?_⟩
    repeat (first | exact belr | apply Below.drew | refine belA ?_ _ | refine belC ?_ _ _ (by omega) _)

theorem next_spec (A : Option Addr) (n c : Nat) (ds : List EntD) (x y : Int) (hz : ∀ e ∈ ds, e.s.size <= 2000000) (w : World) (hn : n <= 9223372036854775807) (hr : Reads w w.heap.size 4 A n (ES ds)) :
  Calls Tryz.prog 90 #[.slice A n c, .int .i64 x, .int .i64 y] w fun e w' => EntPost (nxtP ds x y) e /\ Below w.heap.size w w' := by
 have hl : ds.length = n := by have := hr.1; rw [ES_length] at this; omega
 have Hr := Lib.hid hr
 have HL := Lib.hid hl
 clear hr hl
 rcases hok : dirOkB ds with _ | _
 ·have Hf := Lib.hid (nxtP_bad (x := x) (y := y) hok)
  have Hok := Lib.hid hok
  clear hok
  go_enter Tryz.func90, Tryz.ntmps90
  go_wp2_with fail
  refine (dirOk_spec A n c ds hz _ hn ((Hr.out.below (belA (bel0 w) _)).more (by simp))).mono ?_
  rintro e w1 ⟨rfl, hb1⟩
  rw [Hok.out]
  have hB := (Blk.new' w 38 #[.int .i64 0, .int .i64 0, .string ⟨#[]⟩, .int .i64 0] w.heap.size).below hb1 (by simp)
  obtain ⟨c0, c1, c2, c3⟩ := hB.g4
  obtain ⟨f0, f1, f2, f3⟩ := hB.f4
  have hlt := hB.lt
  have b1 := belN (belA (bel0 w) _) hb1
  go_wp2
  refine bodyPost_ret (v := .tuple #[.agg #[.int .i64 0, .int .i64 0, .string ⟨#[]⟩, .int .i64 0], .bool false]) (by simp [results, Tryz.results90, go_sem, c0, c1, c2, c3]) rfl ⟨entPost_end Hf.out rfl, ?_⟩
  repeat (first | exact b1 | apply Below.drew | refine belA ?_ _ | refine belC ?_ _ _ (by omega) _)
 ·have h12 : n <= 12 := by have := dir12 hok; have := HL.out; omega
  have Hok := Lib.hid hok
  clear hok
  go_enter Tryz.func90, Tryz.ntmps90
  go_wp2_with fail
  refine (dirOk_spec A n c ds hz _ hn ((Hr.out.below (belA (bel0 w) _)).more (by simp))).mono ?_
  rintro e w1 ⟨rfl, hb1⟩
  rw [Hok.out]
  have HB1 := Lib.hid ((Blk.new' w 38 #[.int .i64 0, .int .i64 0, .string ⟨#[]⟩, .int .i64 0] w.heap.size).below hb1 (by simp))
  have b1 := belN (belA (bel0 w) _) hb1
  go_wp2
  go_loopw [8] (fun i wr => ∃ (k : Nat), k <= n /\ i = .int .i64 k /\ Hid ((ds.take k).find? (fun e => behB e x y) = none) /\ Below w1.heap.size w1 wr)
   (fun i _ => n - (intOf i).toNat)
  case atStart => exact ⟨0, by omega, rfl, by simp [Hid], bel0 w1⟩
  case round =>
   obtain ⟨k, hk, rfl, hnone, hbel⟩ := hrel
   have hBr := HB1.out.below hbel HB1.out.lt
   have belr := belN b1 hbel
   have hlt0 := hBr.lt
   obtain ⟨c0, c1', c2, c3⟩ := hBr.g4
   obtain ⟨f0, f1, f2, f3⟩ := hBr.f4
   have ne : w.heap.size ≠ wr.heap.size := by omega
   have ne' : wr.heap.size ≠ w.heap.size := by omega
   by_cases hlt : k < n
   ·obtain ⟨hkx, b, o, rfl, hadb, z0, z1, z2, z3⟩ := reads_ent (Hr.out.below belr) hlt
    have q0 : (0 : Int) <= ↑k := by omega
    have q1 : (↑k : Int) < ↑n := by omega
    have hts := Lib.hid (List.take_succ_eq_append_getElem hkx)
    have hdr := Lib.hid (show ds = ds.take k ++ ds[k] :: ds.drop (k + 1) by rw [<- List.drop_eq_getElem_cons hkx, List.take_append_drop])
    obtain ⟨e, he⟩ : ∃ e, ds[k] = e := ⟨_, rfl⟩
    rw [he] at z0 z1 z2 z3 hts hdr
    clear he
    have nb : b ≠ wr.heap.size := by omega
    have nb2 : b ≠ w.heap.size := by omega
    have hbl := beh_less (e := e) (x := x) (y := y)
    rcases hbh : behB e x y with _ | _
    ·have Hm := Lib.hid (find_miss (p := fun e => behB e x y) hnone.out hbh)
     rw [hbh] at hbl
     rcases hls : lessB e x y with _ | _
     ·rw [hls] at hbl
      simp only [Bool.not_false, Bool.true_and] at hbl
      obtain ⟨g1, g2⟩ := Bool.or_eq_false_iff.1 hbl.symm
      clear hbl hbh
      go_wp2_with fail
      refine (l5Less_any e x y _).mono ?_
      rintro r w2 ⟨rfl, hb2⟩
      rw [hls]
      have z0' := keep1 hb2 z0 (by simp)
      have z1' := keep1 hb2 z1 (by simp)
      clear z0 z1 z2 z3
      go_wp2
      go_roundw
      case rel => exact ⟨k + 1, by omega, by go_num, by show _ = _; rw [hts.out]; exact Hm.out, belN hbel hb2⟩
      case measure => simp [intOf]; omega
     ·clear hbl hbh
      go_wp2_with fail
      refine (l5Less_any e x y _).mono ?_
      rintro r w2 ⟨rfl, hb2⟩
      rw [hls]
      clear z0 z1 z2 z3
      go_wp2
      go_roundw
      case rel => exact ⟨k + 1, by omega, by go_num, by show _ = _; rw [hts.out]; exact Hm.out, belN hbel hb2⟩
      case measure => simp [intOf]; omega
    ·have Hf := Lib.hid (nxtP_some (x := x) (y := y) Hok.out (show ds.find? (fun e => behB e x y) = some e by rw [hdr.out]; exact find_hit (p := fun e => behB e x y) hnone.out hbh))
     rw [hbh] at hbl
     have hbl' := hbl.symm
     rw [Bool.and_eq_true, Bool.or_eq_true] at hbl'
     obtain ⟨hls, hor⟩ := hbl'
     have hls' : lessB e x y = false := by simpa using hls
     clear hbl hls hbh
     have main : ∀ w2, Below wr.heap.size wr w2 -> Blk w2 w.heap.size 38 #[.int .i64 0, .int .i64 0, .string ⟨#[]⟩, .int .i64 0] := fun w2 hb2 => hBr.below hb2 hBr.lt
     rcases g1 : (e.h != x) with _ | _
     ·have g2 : (e.i != y) = true := by
       rcases hor with h | h
       ·rw [g1] at h; cases h
       ·exact h
      clear hor
      go_wp2_with fail
      refine (l5Less_any e x y _).mono ?_
      rintro r w2 ⟨rfl, hb2⟩
      rw [hls']
      have hB2 := main w2 hb2
      have b2 := belN belr hb2
      have z0' := keep1 hb2 z0 (by simp)
      have z1' := keep1 hb2 z1 (by simp)
      have z2' := keep1 hb2 z2 (by simp)
      have z3' := keep1 hb2 z3 (by simp)
      clear c0 c1' c2 c3 f0 f1 f2 f3 z0 z1 z2 z3
      obtain ⟨c0, c1, c2, c3⟩ := hB2.g4
      obtain ⟨f0, f1, f2, f3⟩ := hB2.f4
      have hlt2 := hB2.lt
      have hF := (((hB2.put 0 (.int .i64 e.h) #[.int .i64 e.h, .int .i64 0, .string ⟨#[]⟩, .int .i64 0] rfl).put 1 (.int .i64 e.i) #[.int .i64 e.h, .int .i64 e.i, .string ⟨#[]⟩, .int .i64 0] rfl).put 2 (.string e.s) #[.int .i64 e.h, .int .i64 e.i, .string e.s, .int .i64 0] rfl).put 3 (.int .i64 e.d) #[.int .i64 e.h, .int .i64 e.i, .string e.s, .int .i64 e.d] rfl
      have r0 := Lib.hid (hF.get (x := .int .i64 e.h) 0 rfl)
      have r1 := Lib.hid (hF.get (x := .int .i64 e.i) 1 rfl)
      have r2 := Lib.hid (hF.get (x := .string e.s) 2 rfl)
      have r3 := Lib.hid (hF.get (x := .int .i64 e.d) 3 rfl)
      go_wp2
      refine bodyPost_ret (v := .tuple #[.agg #[.int .i64 e.h, .int .i64 e.i, .string e.s, .int .i64 e.d], .bool true]) (by simp [results, Tryz.results90, go_sem, r0.out, r1.out, r2.out, r3.out]) rfl ⟨entPost_end Hf.out rfl, ?_⟩
      repeat (first | exact b2 | apply Below.drew | refine belA ?_ _ | refine belC ?_ _ _ (by omega) _)
     ·clear hor
      go_wp2_with fail
      refine (l5Less_any e x y _).mono ?_
      rintro r w2 ⟨rfl, hb2⟩
      rw [hls']
      have hB2 := main w2 hb2
      have b2 := belN belr hb2
      have z0' := keep1 hb2 z0 (by simp)
      have z1' := keep1 hb2 z1 (by simp)
      have z2' := keep1 hb2 z2 (by simp)
      have z3' := keep1 hb2 z3 (by simp)
      clear c0 c1' c2 c3 f0 f1 f2 f3 z0 z1 z2 z3
      obtain ⟨c0, c1, c2, c3⟩ := hB2.g4
      obtain ⟨f0, f1, f2, f3⟩ := hB2.f4
      have hlt2 := hB2.lt
      have hF := (((hB2.put 0 (.int .i64 e.h) #[.int .i64 e.h, .int .i64 0, .string ⟨#[]⟩, .int .i64 0] rfl).put 1 (.int .i64 e.i) #[.int .i64 e.h, .int .i64 e.i, .string ⟨#[]⟩, .int .i64 0] rfl).put 2 (.string e.s) #[.int .i64 e.h, .int .i64 e.i, .string e.s, .int .i64 0] rfl).put 3 (.int .i64 e.d) #[.int .i64 e.h, .int .i64 e.i, .string e.s, .int .i64 e.d] rfl
      have r0 := Lib.hid (hF.get (x := .int .i64 e.h) 0 rfl)
      have r1 := Lib.hid (hF.get (x := .int .i64 e.i) 1 rfl)
      have r2 := Lib.hid (hF.get (x := .string e.s) 2 rfl)
      have r3 := Lib.hid (hF.get (x := .int .i64 e.d) 3 rfl)
      go_wp2
      refine bodyPost_ret (v := .tuple #[.agg #[.int .i64 e.h, .int .i64 e.i, .string e.s, .int .i64 e.d], .bool true]) (by simp [results, Tryz.results90, go_sem, r0.out, r1.out, r2.out, r3.out]) rfl ⟨entPost_end Hf.out rfl, ?_⟩
      repeat (first | exact b2 | apply Below.drew | refine belA ?_ _ | refine belC ?_ _ _ (by omega) _)
   ·have Hf := Lib.hid (nxtP_none (x := x) (y := y) Hok.out (by have := hnone.out; rwa [List.take_of_length_le (by have := HL.out; omega)] at this))
    go_wp2
    refine bodyPost_ret (v := .tuple #[.agg #[.int .i64 0, .int .i64 0, .string ⟨#[]⟩, .int .i64 0], .bool false]) (by simp [results, Tryz.results90, go_sem, c0, c1', c2, c3]) rfl ⟨entPost_end Hf.out rfl, ?_⟩
    repeat (first | exact belr | apply Below.drew | refine belA ?_ _ | refine belC ?_ _ _ (by omega) _)

theorem dirOk_nil : dirOkB [] = true := dirOkB_true ⟨by simp, fun i h => absurd h (by simp)⟩

end Go.Proofs.YtjjniapamdleoaaGreatDoor
