/- DpNext, DpOk. -/
import Derived.Test.YtbchbmcphbeikaaGreatDoorDir
import Derived.Test.YtbchbmcphbeikaaGreatDoorPgOk
import Derived.Test.YtbchbmcphbeikaaGreatDoorIsPg
namespace Go.Proofs.YtbchbmcphbeikaaGreatDoor
open Go Go.RowKit

def EntD.zero : EntD := ⟨0, 0, ⟨#[]⟩, 0⟩
/-- An entry and whether there is one. -/
def EntPost (P : EntD × Bool) (e : Ending) : Prop := ∃ E fb, P = (E, fb) ∧ e = .returned (.tuple #[.agg #[.int .i64 E.h, .int .i64 E.i, .string E.s, .int .i64 E.d], .bool fb])
theorem entPost_end {P : EntD × Bool} {E : EntD} {fb : Bool} {v : Value} (h : P = (E, fb)) (hv : v = .tuple #[.agg #[.int .i64 E.h, .int .i64 E.i, .string E.s, .int .i64 E.d], .bool fb]) : EntPost P (.returned v) := ⟨E, fb, h, by rw [hv]⟩
/-- The first entry behind a place. -/
noncomputable def nxtP (ds : List EntD) (x y : Int) : EntD × Bool := if dirOkB ds = true then (match ds.find? (fun e => behB e x y) with | some e => (e, true) | none => (EntD.zero, false)) else (EntD.zero, false)
theorem nxtP_bad {ds : List EntD} {x y : Int} (h : dirOkB ds = false) : nxtP ds x y = (EntD.zero, false) := by unfold nxtP; rw [if_neg (by rw [h]; simp)]
theorem nxtP_some {ds : List EntD} {x y : Int} {e : EntD} (h : dirOkB ds = true) (hf : ds.find? (fun e => behB e x y) = some e) : nxtP ds x y = (e, true) := by unfold nxtP; rw [if_pos h, hf]
theorem nxtP_none {ds : List EntD} {x y : Int} (h : dirOkB ds = true) (hf : ds.find? (fun e => behB e x y) = none) : nxtP ds x y = (EntD.zero, false) := by unfold nxtP; rw [if_pos h, hf]
theorem beh_less {e : EntD} {x y : Int} : behB e x y = (!lessB e x y && ((e.h != x) || (e.i != y))) := by
  unfold behB lessB
  rw [Bool.eq_iff_iff]
  simp only [Bool.or_eq_true, Bool.and_eq_true, decide_eq_true_eq, Bool.not_eq_true', bne_iff_ne, ne_eq, Bool.or_eq_false_iff, Bool.and_eq_false_iff, decide_eq_false_iff_not]
  omega
theorem dir12 {ds : List EntD} (h : dirOkB ds = true) : ds.length ≤ 12 := (dirOkB_iff.1 h).1


set_option maxRecDepth 100000 in
set_option maxHeartbeats 4000000 in
theorem next_impl (A : Option Addr) (n c : Nat) (ds : List EntD) (x y : Int) (hz : ∀ e ∈ ds, e.s.size ≤ 2000000) (w : World) (hT : Tab w) (hn : n ≤ 9223372036854775807) (hr : Reads w w.heap.size 4 A n (ES ds)) :
    Calls Tryz.prog 38 #[.slice A n c, .int .i64 x, .int .i64 y] w fun e w' => EntPost (nxtP ds x y) e ∧ Below w.heap.size w w' := by
  have hl : ds.length = n := by have := hr.1; rw [ES_length] at this; omega
  have Hr := Lib.hid hr
  have HL := Lib.hid hl
  have HT := Lib.hid hT
  clear hT
  clear hr hl
  rcases hok : dirOkB ds with _ | _
  · have Hf := Lib.hid (nxtP_bad (x := x) (y := y) hok)
    have Hok := Lib.hid hok
    clear hok
    go_enter Tryz.func38, Tryz.ntmps38
    go_wp2_with fail
    refine (dirOk_impl A n c ds hz _ (HT.out.al _) hn ((Hr.out.below (belA (bel0 w) _)).more (by simp))).mono ?_
    rintro e w1 ⟨rfl, hb1⟩
    rw [Hok.out]
    have hB := (Blk.new' w 40 #[.int .i64 0, .int .i64 0, .string ⟨#[]⟩, .int .i64 0] w.heap.size).below hb1 (by simp)
    have c0 := hB.get 0 rfl
    have c1 := hB.get 1 rfl
    have c2 := hB.get 2 rfl
    have c3 := hB.get 3 rfl
    have f0 := hB.frozen 0
    have f1 := hB.frozen 1
    have f2 := hB.frozen 2
    have f3 := hB.frozen 3
    have hlt := hB.lt
    have b1 := belN (belA (bel0 w) _) hb1
    go_wp2
    refine bodyPost_ret (v := .tuple #[.agg #[.int .i64 0, .int .i64 0, .string ⟨#[]⟩, .int .i64 0], .bool false]) (by simp [results, Tryz.results38, go_sem, c0, c1, c2, c3]) rfl ⟨entPost_end Hf.out rfl, ?_⟩
    repeat (first | exact b1 | apply Below.drew | refine belA ?_ _ | refine belC ?_ _ _ (by omega) _)
  · have h12 : n ≤ 12 := by have := dir12 hok; have := HL.out; omega
    have Hok := Lib.hid hok
    clear hok
    go_enter Tryz.func38, Tryz.ntmps38
    go_wp2_with fail
    refine (dirOk_impl A n c ds hz _ (HT.out.al _) hn ((Hr.out.below (belA (bel0 w) _)).more (by simp))).mono ?_
    rintro e w1 ⟨rfl, hb1⟩
    rw [Hok.out]
    have HB1 := Lib.hid ((Blk.new' w 40 #[.int .i64 0, .int .i64 0, .string ⟨#[]⟩, .int .i64 0] w.heap.size).below hb1 (by simp))
    have b1 := belN (belA (bel0 w) _) hb1
    go_wp2
    go_loopw [16] (fun i wr => ∃ (k : Nat), k ≤ n ∧ i = .int .i64 k ∧ Hid ((ds.take k).find? (fun e => behB e x y) = none) ∧ Below w1.heap.size w1 wr)
      (fun i _ => n - (intOf i).toNat)
    case atStart => exact ⟨0, by omega, rfl, by simp [Hid], bel0 w1⟩
    case round =>
      obtain ⟨k, hk, rfl, hnone, hbel⟩ := hrel
      have hBr := HB1.out.below hbel HB1.out.lt
      have belr := belN b1 hbel
      have hlt0 := hBr.lt
      have c0 := hBr.get 0 rfl
      have c1' := hBr.get 1 rfl
      have c2 := hBr.get 2 rfl
      have c3 := hBr.get 3 rfl
      have f0 := hBr.frozen 0
      have f1 := hBr.frozen 1
      have f2 := hBr.frozen 2
      have f3 := hBr.frozen 3
      have ne : w.heap.size ≠ wr.heap.size := by omega
      have ne' : wr.heap.size ≠ w.heap.size := by omega
      by_cases hlt : k < n
      · obtain ⟨hkx, b, o, rfl, hadb, z0, z1, z2, z3⟩ := reads_ent (Hr.out.below belr) hlt
        have q0 : (0 : Int) ≤ ↑k := by omega
        have q1 : (↑k : Int) < ↑n := by omega
        have hts := Lib.hid (List.take_succ_eq_append_getElem hkx)
        have hdr := Lib.hid (show ds = ds.take k ++ ds[k] :: ds.drop (k + 1) by rw [← List.drop_eq_getElem_cons hkx, List.take_append_drop])
        obtain ⟨e, he⟩ : ∃ e, ds[k] = e := ⟨_, rfl⟩
        rw [he] at z0 z1 z2 z3 hts hdr
        clear he
        have nb : b ≠ wr.heap.size := by omega
        have nb2 : b ≠ w.heap.size := by omega
        rcases hbh : behB e x y with _ | _
        · have Hm := Lib.hid (find_miss (p := fun e => behB e x y) hnone.out hbh)
          go_wp2_with fail
          refine (isBehind_any e x y _).mono ?_
          rintro r w2 ⟨rfl, hb2⟩
          rw [hbh]
          go_wp2
          go_roundw
          case rel => exact ⟨k + 1, by omega, by go_num, by show _ = _; rw [hts.out]; exact Hm.out, belN (belA hbel _) hb2⟩
          case measure => simp [intOf]; omega
        · have Hf := Lib.hid (nxtP_some (x := x) (y := y) Hok.out (show ds.find? (fun e => behB e x y) = some e by rw [hdr.out]; exact find_hit (p := fun e => behB e x y) hnone.out hbh))
          go_wp2_with fail
          refine (isBehind_any e x y _).mono ?_
          rintro r w2 ⟨rfl, hb2⟩
          rw [hbh]
          have hB2 := (hBr.alloc (.cells #[.int .i64 e.h, .int .i64 e.i, .string e.s, .int .i64 e.d] 40)).below hb2 (by simp; omega)
          have hE2 := (Blk.new' wr 40 #[.int .i64 e.h, .int .i64 e.i, .string e.s, .int .i64 e.d] wr.heap.size).below hb2 (by simp)
          have b2 := belN (belA belr (.cells #[.int .i64 e.h, .int .i64 e.i, .string e.s, .int .i64 e.d] 40)) hb2
          clear c0 c1' c2 c3 f0 f1 f2 f3 z0 z1 z2 z3
          have c0 := hB2.get 0 rfl
          have c1 := hB2.get 1 rfl
          have c2 := hB2.get 2 rfl
          have c3 := hB2.get 3 rfl
          have f0 := hB2.frozen 0
          have f1 := hB2.frozen 1
          have f2 := hB2.frozen 2
          have f3 := hB2.frozen 3
          have d0 := hE2.get (x := .int .i64 e.h) 0 rfl
          have d1 := hE2.get (x := .int .i64 e.i) 1 rfl
          have d2 := hE2.get (x := .string e.s) 2 rfl
          have d3 := hE2.get (x := .int .i64 e.d) 3 rfl
          have hlt2 := hB2.lt
          have hlt3 := hE2.lt
          have hF := (((hB2.put 0 (.int .i64 e.h) #[.int .i64 e.h, .int .i64 0, .string ⟨#[]⟩, .int .i64 0] rfl).put 1 (.int .i64 e.i) #[.int .i64 e.h, .int .i64 e.i, .string ⟨#[]⟩, .int .i64 0] rfl).put 2 (.string e.s) #[.int .i64 e.h, .int .i64 e.i, .string e.s, .int .i64 0] rfl).put 3 (.int .i64 e.d) #[.int .i64 e.h, .int .i64 e.i, .string e.s, .int .i64 e.d] rfl
          have r0 := Lib.hid (hF.get (x := .int .i64 e.h) 0 rfl)
          have r1 := Lib.hid (hF.get (x := .int .i64 e.i) 1 rfl)
          have r2 := Lib.hid (hF.get (x := .string e.s) 2 rfl)
          have r3 := Lib.hid (hF.get (x := .int .i64 e.d) 3 rfl)
          go_wp2
          refine bodyPost_ret (v := .tuple #[.agg #[.int .i64 e.h, .int .i64 e.i, .string e.s, .int .i64 e.d], .bool true]) (by simp [results, Tryz.results38, go_sem, r0.out, r1.out, r2.out, r3.out]) rfl ⟨entPost_end Hf.out rfl, ?_⟩
          repeat (first | exact b2 | apply Below.drew | refine belA ?_ _ | refine belC ?_ _ _ (by omega) _)
      · have Hf := Lib.hid (nxtP_none (x := x) (y := y) Hok.out (by have := hnone.out; rwa [List.take_of_length_le (by have := HL.out; omega)] at this))
        go_wp2
        refine bodyPost_ret (v := .tuple #[.agg #[.int .i64 0, .int .i64 0, .string ⟨#[]⟩, .int .i64 0], .bool false]) (by simp [results, Tryz.results38, go_sem, c0, c1', c2, c3]) rfl ⟨entPost_end Hf.out rfl, ?_⟩
        repeat (first | exact belr | apply Below.drew | refine belA ?_ _ | refine belC ?_ _ _ (by omega) _)

set_option maxRecDepth 100000 in
set_option maxHeartbeats 4000000 in
theorem next_spec (A : Option Addr) (n c : Nat) (ds : List EntD) (x y : Int) (hz : ∀ e ∈ ds, e.s.size ≤ 2000000) (w : World) (hn : n ≤ 9223372036854775807) (hr : Reads w w.heap.size 4 A n (ES ds)) :
    Calls Tryz.prog 18 #[.slice A n c, .int .i64 x, .int .i64 y] w fun e w' => EntPost (nxtP ds x y) e ∧ Below w.heap.size w w' := by
  have hl : ds.length = n := by have := hr.1; rw [ES_length] at this; omega
  have Hr := Lib.hid hr
  have HL := Lib.hid hl
  clear hr hl
  rcases hok : dirOkB ds with _ | _
  · have Hf := Lib.hid (nxtP_bad (x := x) (y := y) hok)
    have Hok := Lib.hid hok
    clear hok
    go_enter Tryz.func18, Tryz.ntmps18
    go_wp2_with fail
    refine (dirOk_spec A n c ds hz _ hn ((Hr.out.below (belA (bel0 w) _)).more (by simp))).mono ?_
    rintro e w1 ⟨rfl, hb1⟩
    rw [Hok.out]
    have hB := (Blk.new' w 40 #[.int .i64 0, .int .i64 0, .string ⟨#[]⟩, .int .i64 0] w.heap.size).below hb1 (by simp)
    have c0 := hB.get 0 rfl
    have c1 := hB.get 1 rfl
    have c2 := hB.get 2 rfl
    have c3 := hB.get 3 rfl
    have f0 := hB.frozen 0
    have f1 := hB.frozen 1
    have f2 := hB.frozen 2
    have f3 := hB.frozen 3
    have hlt := hB.lt
    have b1 := belN (belA (bel0 w) _) hb1
    go_wp2
    refine bodyPost_ret (v := .tuple #[.agg #[.int .i64 0, .int .i64 0, .string ⟨#[]⟩, .int .i64 0], .bool false]) (by simp [results, Tryz.results18, go_sem, c0, c1, c2, c3]) rfl ⟨entPost_end Hf.out rfl, ?_⟩
    repeat (first | exact b1 | apply Below.drew | refine belA ?_ _ | refine belC ?_ _ _ (by omega) _)
  · have h12 : n ≤ 12 := by have := dir12 hok; have := HL.out; omega
    have Hok := Lib.hid hok
    clear hok
    go_enter Tryz.func18, Tryz.ntmps18
    go_wp2_with fail
    refine (dirOk_spec A n c ds hz _ hn ((Hr.out.below (belA (bel0 w) _)).more (by simp))).mono ?_
    rintro e w1 ⟨rfl, hb1⟩
    rw [Hok.out]
    have HB1 := Lib.hid ((Blk.new' w 40 #[.int .i64 0, .int .i64 0, .string ⟨#[]⟩, .int .i64 0] w.heap.size).below hb1 (by simp))
    have b1 := belN (belA (bel0 w) _) hb1
    go_wp2
    go_loopw [8] (fun i wr => ∃ (k : Nat), k ≤ n ∧ i = .int .i64 k ∧ Hid ((ds.take k).find? (fun e => behB e x y) = none) ∧ Below w1.heap.size w1 wr)
      (fun i _ => n - (intOf i).toNat)
    case atStart => exact ⟨0, by omega, rfl, by simp [Hid], bel0 w1⟩
    case round =>
      obtain ⟨k, hk, rfl, hnone, hbel⟩ := hrel
      have hBr := HB1.out.below hbel HB1.out.lt
      have belr := belN b1 hbel
      have hlt0 := hBr.lt
      have c0 := hBr.get 0 rfl
      have c1' := hBr.get 1 rfl
      have c2 := hBr.get 2 rfl
      have c3 := hBr.get 3 rfl
      have f0 := hBr.frozen 0
      have f1 := hBr.frozen 1
      have f2 := hBr.frozen 2
      have f3 := hBr.frozen 3
      have ne : w.heap.size ≠ wr.heap.size := by omega
      have ne' : wr.heap.size ≠ w.heap.size := by omega
      by_cases hlt : k < n
      · obtain ⟨hkx, b, o, rfl, hadb, z0, z1, z2, z3⟩ := reads_ent (Hr.out.below belr) hlt
        have q0 : (0 : Int) ≤ ↑k := by omega
        have q1 : (↑k : Int) < ↑n := by omega
        have hts := Lib.hid (List.take_succ_eq_append_getElem hkx)
        have hdr := Lib.hid (show ds = ds.take k ++ ds[k] :: ds.drop (k + 1) by rw [← List.drop_eq_getElem_cons hkx, List.take_append_drop])
        obtain ⟨e, he⟩ : ∃ e, ds[k] = e := ⟨_, rfl⟩
        rw [he] at z0 z1 z2 z3 hts hdr
        clear he
        have nb : b ≠ wr.heap.size := by omega
        have nb2 : b ≠ w.heap.size := by omega
        have hbl := beh_less (e := e) (x := x) (y := y)
        rcases hbh : behB e x y with _ | _
        · have Hm := Lib.hid (find_miss (p := fun e => behB e x y) hnone.out hbh)
          rw [hbh] at hbl
          rcases hls : lessB e x y with _ | _
          · rw [hls] at hbl
            simp only [Bool.not_false, Bool.true_and] at hbl
            obtain ⟨g1, g2⟩ := Bool.or_eq_false_iff.1 hbl.symm
            clear hbl hbh
            go_wp2_with fail
            refine (l5Less_any e x y _).mono ?_
            rintro r w2 ⟨rfl, hb2⟩
            rw [hls]
            have z0' := keep1 hb2 z0 (by simp)
            have z1' := keep1 hb2 z1 (by simp)
            clear z0 z1 z2 z3
            go_wp2
            go_roundw
            case rel => exact ⟨k + 1, by omega, by go_num, by show _ = _; rw [hts.out]; exact Hm.out, belN hbel hb2⟩
            case measure => simp [intOf]; omega
          · clear hbl hbh
            go_wp2_with fail
            refine (l5Less_any e x y _).mono ?_
            rintro r w2 ⟨rfl, hb2⟩
            rw [hls]
            clear z0 z1 z2 z3
            go_wp2
            go_roundw
            case rel => exact ⟨k + 1, by omega, by go_num, by show _ = _; rw [hts.out]; exact Hm.out, belN hbel hb2⟩
            case measure => simp [intOf]; omega
        · have Hf := Lib.hid (nxtP_some (x := x) (y := y) Hok.out (show ds.find? (fun e => behB e x y) = some e by rw [hdr.out]; exact find_hit (p := fun e => behB e x y) hnone.out hbh))
          rw [hbh] at hbl
          have hbl' := hbl.symm
          rw [Bool.and_eq_true, Bool.or_eq_true] at hbl'
          obtain ⟨hls, hor⟩ := hbl'
          have hls' : lessB e x y = false := by simpa using hls
          clear hbl hls hbh
          have main : ∀ w2, Below wr.heap.size wr w2 → Blk w2 w.heap.size 40 #[.int .i64 0, .int .i64 0, .string ⟨#[]⟩, .int .i64 0] := fun w2 hb2 => hBr.below hb2 hBr.lt
          rcases g1 : (e.h != x) with _ | _
          · have g2 : (e.i != y) = true := by
              rcases hor with h | h
              · rw [g1] at h; cases h
              · exact h
            clear hor
            go_wp2_with fail
            refine (l5Less_any e x y _).mono ?_
            rintro r w2 ⟨rfl, hb2⟩
            rw [hls']
            have hB2 := main w2 hb2
            have b2 := belN belr hb2
            have z0' := keep1 hb2 z0 (by simp)
            have z1' := keep1 hb2 z1 (by simp)
            have z2' := keep1 hb2 z2 (by simp)
            have z3' := keep1 hb2 z3 (by simp)
            clear c0 c1' c2 c3 f0 f1 f2 f3 z0 z1 z2 z3
            have c0 := hB2.get 0 rfl
            have c1 := hB2.get 1 rfl
            have c2 := hB2.get 2 rfl
            have c3 := hB2.get 3 rfl
            have f0 := hB2.frozen 0
            have f1 := hB2.frozen 1
            have f2 := hB2.frozen 2
            have f3 := hB2.frozen 3
            have hlt2 := hB2.lt
            have hF := (((hB2.put 0 (.int .i64 e.h) #[.int .i64 e.h, .int .i64 0, .string ⟨#[]⟩, .int .i64 0] rfl).put 1 (.int .i64 e.i) #[.int .i64 e.h, .int .i64 e.i, .string ⟨#[]⟩, .int .i64 0] rfl).put 2 (.string e.s) #[.int .i64 e.h, .int .i64 e.i, .string e.s, .int .i64 0] rfl).put 3 (.int .i64 e.d) #[.int .i64 e.h, .int .i64 e.i, .string e.s, .int .i64 e.d] rfl
            have r0 := Lib.hid (hF.get (x := .int .i64 e.h) 0 rfl)
            have r1 := Lib.hid (hF.get (x := .int .i64 e.i) 1 rfl)
            have r2 := Lib.hid (hF.get (x := .string e.s) 2 rfl)
            have r3 := Lib.hid (hF.get (x := .int .i64 e.d) 3 rfl)
            go_wp2
            refine bodyPost_ret (v := .tuple #[.agg #[.int .i64 e.h, .int .i64 e.i, .string e.s, .int .i64 e.d], .bool true]) (by simp [results, Tryz.results18, go_sem, r0.out, r1.out, r2.out, r3.out]) rfl ⟨entPost_end Hf.out rfl, ?_⟩
            repeat (first | exact b2 | apply Below.drew | refine belA ?_ _ | refine belC ?_ _ _ (by omega) _)
          · clear hor
            go_wp2_with fail
            refine (l5Less_any e x y _).mono ?_
            rintro r w2 ⟨rfl, hb2⟩
            rw [hls']
            have hB2 := main w2 hb2
            have b2 := belN belr hb2
            have z0' := keep1 hb2 z0 (by simp)
            have z1' := keep1 hb2 z1 (by simp)
            have z2' := keep1 hb2 z2 (by simp)
            have z3' := keep1 hb2 z3 (by simp)
            clear c0 c1' c2 c3 f0 f1 f2 f3 z0 z1 z2 z3
            have c0 := hB2.get 0 rfl
            have c1 := hB2.get 1 rfl
            have c2 := hB2.get 2 rfl
            have c3 := hB2.get 3 rfl
            have f0 := hB2.frozen 0
            have f1 := hB2.frozen 1
            have f2 := hB2.frozen 2
            have f3 := hB2.frozen 3
            have hlt2 := hB2.lt
            have hF := (((hB2.put 0 (.int .i64 e.h) #[.int .i64 e.h, .int .i64 0, .string ⟨#[]⟩, .int .i64 0] rfl).put 1 (.int .i64 e.i) #[.int .i64 e.h, .int .i64 e.i, .string ⟨#[]⟩, .int .i64 0] rfl).put 2 (.string e.s) #[.int .i64 e.h, .int .i64 e.i, .string e.s, .int .i64 0] rfl).put 3 (.int .i64 e.d) #[.int .i64 e.h, .int .i64 e.i, .string e.s, .int .i64 e.d] rfl
            have r0 := Lib.hid (hF.get (x := .int .i64 e.h) 0 rfl)
            have r1 := Lib.hid (hF.get (x := .int .i64 e.i) 1 rfl)
            have r2 := Lib.hid (hF.get (x := .string e.s) 2 rfl)
            have r3 := Lib.hid (hF.get (x := .int .i64 e.d) 3 rfl)
            go_wp2
            refine bodyPost_ret (v := .tuple #[.agg #[.int .i64 e.h, .int .i64 e.i, .string e.s, .int .i64 e.d], .bool true]) (by simp [results, Tryz.results18, go_sem, r0.out, r1.out, r2.out, r3.out]) rfl ⟨entPost_end Hf.out rfl, ?_⟩
            repeat (first | exact b2 | apply Below.drew | refine belA ?_ _ | refine belC ?_ _ _ (by omega) _)
      · have Hf := Lib.hid (nxtP_none (x := x) (y := y) Hok.out (by have := hnone.out; rwa [List.take_of_length_le (by have := HL.out; omega)] at this))
        go_wp2
        refine bodyPost_ret (v := .tuple #[.agg #[.int .i64 0, .int .i64 0, .string ⟨#[]⟩, .int .i64 0], .bool false]) (by simp [results, Tryz.results18, go_sem, c0, c1', c2, c3]) rfl ⟨entPost_end Hf.out rfl, ?_⟩
        repeat (first | exact belr | apply Below.drew | refine belA ?_ _ | refine belC ?_ _ _ (by omega) _)

theorem PagesAt.next {w w' : World} {A : Option Addr} {n : Nat} {ps : List (List EntD)} (h : PagesAt w w.heap.size A n ps) (hb : Below w.heap.size w w') : PagesAt w' w'.heap.size A n ps := (h.below hb).more hb.size
/-- Pages are a directory. -/
noncomputable def dpOkB (ps : List (List EntD)) : Bool := okPB ps && dirOkB (pgL ps)
theorem dp_flat {ps : List (List EntD)} (sm : szSS ps ≤ 1048576) : ps.flatten.length ≤ 10000000 := by have := szSS_flat ps; omega
theorem dp_len {ps : List (List EntD)} (sm : szSS ps ≤ 1048576) : ps.length ≤ 10000000 := by have := szSS_len ps; omega
theorem dp_pgL {ps : List (List EntD)} (sm : szSS ps ≤ 1048576) : (pgL ps).length ≤ 10000000 := by have := pgL_len ps; have := dp_flat sm; omega
theorem dp_names {ps : List (List EntD)} (sm : szSS ps ≤ 1048576) : ∀ e ∈ pgL ps, e.s.size ≤ 2000000 := fun e he => by
  unfold pgL at he
  split at he
  · have := szSS_name ps e he; omega
  · cases he
theorem dirOk_nil : dirOkB [] = true := dirOkB_true ⟨by simp, fun i h => absurd h (by simp)⟩
theorem dp_no {ps : List (List EntD)} {x y : Int} (h : dpOkB ps = false) : nxtP (pgL ps) x y = (EntD.zero, false) := by
  unfold dpOkB at h
  cases ho : okPB ps
  · rw [pgL_no ho]; exact nxtP_none dirOk_nil rfl
  · rw [ho, Bool.true_and] at h; exact nxtP_bad h

set_option maxRecDepth 100000 in
set_option maxHeartbeats 2000000 in
theorem dpOk_impl (v : Value) (ps : List (List EntD)) (sm : szSS ps ≤ 1048576) (w : World) (hT : Tab w) (h : IsSS w v ps) :
    Calls Tryz.prog 24 #[v] w fun e w' => e = .returned (.bool (dpOkB ps)) ∧ Below w.heap.size w w' := by
  have HT := Lib.hid hT
  clear hT
  have hf := dp_flat sm
  have hn := dp_len sm
  have hp := dp_pgL sm
  obtain ⟨A, c, rfl, hr⟩ := h
  have Hr := Lib.hid hr
  clear hr
  rcases hok : okPB ps with _ | _
  · have Hf := Lib.hid (show dpOkB ps = false by unfold dpOkB; rw [hok]; rfl)
    have Hok := Lib.hid hok
    clear hok
    go_enter Tryz.func24, Tryz.ntmps24
    go_wp2_with fail
    refine (pagesOk_impl A _ c ps hf hn _ Hr.out).mono ?_
    rintro e w1 ⟨rfl, hb1⟩
    rw [Hok.out]
    go_wp2
    go_ret
    exact ⟨ret_bool Hf.out.symm, hb1⟩
  · have Hf := Lib.hid (show dpOkB ps = dirOkB (pgL ps) by unfold dpOkB; rw [hok]; rfl)
    have Hok := Lib.hid hok
    clear hok
    go_enter Tryz.func24, Tryz.ntmps24
    go_wp2_with fail
    refine (pagesOk_impl A _ c ps hf hn _ Hr.out).mono ?_
    rintro e w1 ⟨rfl, hb1⟩
    rw [Hok.out]
    go_wp2_with fail
    refine (pgList_impl A _ c ps hf hn _ (Hr.out.next hb1)).mono ?_
    rintro e w2 ⟨v2, rfl, hown, hb2⟩
    obtain ⟨A2, c2, rfl, _, _, hr2⟩ := own_vals hown
    clear hown
    go_wp2_with fail
    refine (dirOk_impl _ _ _ _ (dp_names sm) _ ((HT.out.bl hb1).bl hb2) (by omega) hr2).mono ?_
    rintro e w3 ⟨rfl, hb3⟩
    go_wp2
    go_ret
    exact ⟨ret_bool Hf.out.symm, belN (belN hb1 hb2) hb3⟩

set_option maxRecDepth 100000 in
set_option maxHeartbeats 2000000 in
theorem dpNext_impl (v : Value) (ps : List (List EntD)) (sm : szSS ps ≤ 1048576) (x y : Int) (w : World) (hT : Tab w) (h : IsSS w v ps) :
    Calls Tryz.prog 16 #[v, .int .i64 x, .int .i64 y] w fun e w' => EntPost (nxtP (pgL ps) x y) e ∧ Below w.heap.size w w' := by
  have HT := Lib.hid hT
  clear hT
  have hf := dp_flat sm
  have hn := dp_len sm
  have hp := dp_pgL sm
  have hA := h.next (belA (bel0 w) (.cells #[.int .i64 0, .int .i64 0, .string ⟨#[]⟩, .int .i64 0] 40))
  have HA := Lib.hid hA
  clear h hA
  rcases hok : dpOkB ps with _ | _
  · have Hf := Lib.hid (dp_no (x := x) (y := y) hok)
    have Hok := Lib.hid hok
    clear hok
    go_enter Tryz.func16, Tryz.ntmps16
    go_wp2_with fail
    refine (dpOk_impl v ps sm _ (HT.out.al _) HA.out).mono ?_
    rintro e w1 ⟨rfl, hb1⟩
    rw [Hok.out]
    have hB := (Blk.new' w 40 #[.int .i64 0, .int .i64 0, .string ⟨#[]⟩, .int .i64 0] w.heap.size).below hb1 (by simp)
    have c0 := hB.get 0 rfl
    have c1 := hB.get 1 rfl
    have c2 := hB.get 2 rfl
    have c3 := hB.get 3 rfl
    have f0 := hB.frozen 0
    have f1 := hB.frozen 1
    have f2 := hB.frozen 2
    have f3 := hB.frozen 3
    have hlt := hB.lt
    have b1 := belN (belA (bel0 w) _) hb1
    go_wp2
    refine bodyPost_ret (v := .tuple #[.agg #[.int .i64 0, .int .i64 0, .string ⟨#[]⟩, .int .i64 0], .bool false]) (by simp [results, Tryz.results16, go_sem, c0, c1, c2, c3]) rfl ⟨entPost_end Hf.out rfl, ?_⟩
    repeat (first | exact b1 | apply Below.drew | refine belA ?_ _ | refine belC ?_ _ _ (by omega) _)
  · have Hok := Lib.hid hok
    clear hok
    go_enter Tryz.func16, Tryz.ntmps16
    go_wp2_with fail
    refine (dpOk_impl v ps sm _ (HT.out.al _) HA.out).mono ?_
    rintro e w1 ⟨rfl, hb1⟩
    rw [Hok.out]
    have hA1 := HA.out.next hb1
    obtain ⟨A, c, rfl, hr⟩ := hA1
    have Hr := Lib.hid hr
    have hB := (Blk.new' w 40 #[.int .i64 0, .int .i64 0, .string ⟨#[]⟩, .int .i64 0] w.heap.size).below hb1 (by simp)
    have b1 := belN (belA (bel0 w) _) hb1
    clear hr
    go_wp2_with fail
    refine (pgList_impl A _ c ps hf hn _ Hr.out).mono ?_
    rintro e w2 ⟨v2, rfl, hown, hb2⟩
    obtain ⟨A2, c2, rfl, _, _, hr2⟩ := own_vals hown
    have b2 := belN b1 hb2
    clear hown
    go_wp2_with fail
    refine (next_impl A2 _ c2 _ x y (dp_names sm) _ (((HT.out.al _).bl hb1).bl hb2) (by omega) hr2).mono ?_
    rintro e w3 ⟨⟨E, fb, hE, rfl⟩, hb3⟩
    have HE := Lib.hid hE
    have b3 := belN b2 hb3
    have hB3 := (hB.below hb2 hB.lt).below hb3 (hB.below hb2 hB.lt).lt
    have c0 := hB3.get 0 rfl
    have c1 := hB3.get 1 rfl
    have c2 := hB3.get 2 rfl
    have c3 := hB3.get 3 rfl
    have f0 := hB3.frozen 0
    have f1 := hB3.frozen 1
    have f2 := hB3.frozen 2
    have f3 := hB3.frozen 3
    have hlt := hB3.lt
    clear hE hr2
    have hF := (((hB3.put 0 (.int .i64 E.h) #[.int .i64 E.h, .int .i64 0, .string ⟨#[]⟩, .int .i64 0] rfl).put 1 (.int .i64 E.i) #[.int .i64 E.h, .int .i64 E.i, .string ⟨#[]⟩, .int .i64 0] rfl).put 2 (.string E.s) #[.int .i64 E.h, .int .i64 E.i, .string E.s, .int .i64 0] rfl).put 3 (.int .i64 E.d) #[.int .i64 E.h, .int .i64 E.i, .string E.s, .int .i64 E.d] rfl
    have r0 := Lib.hid (hF.get (x := .int .i64 E.h) 0 rfl)
    have r1 := Lib.hid (hF.get (x := .int .i64 E.i) 1 rfl)
    have r2 := Lib.hid (hF.get (x := .string E.s) 2 rfl)
    have r3 := Lib.hid (hF.get (x := .int .i64 E.d) 3 rfl)
    go_wp2
    refine bodyPost_ret (v := .tuple #[.agg #[.int .i64 E.h, .int .i64 E.i, .string E.s, .int .i64 E.d], .bool fb]) (by simp [results, Tryz.results16, go_sem, r0.out, r1.out, r2.out, r3.out]) rfl ⟨entPost_end HE.out rfl, ?_⟩
    repeat (first | exact b3 | apply Below.drew | refine belA ?_ _ | refine belC ?_ _ _ (by omega) _)

set_option maxRecDepth 100000 in
set_option maxHeartbeats 2000000 in
theorem dpOk_spec (v : Value) (ps : List (List EntD)) (sm : szSS ps ≤ 1048576) (w : World) (h : IsSS w v ps) :
    Calls Tryz.prog 7 #[v] w fun e w' => e = .returned (.bool (dpOkB ps)) ∧ Below w.heap.size w w' := by
  have hf := dp_flat sm
  have hn := dp_len sm
  have hp := dp_pgL sm
  obtain ⟨A, c, rfl, hr⟩ := h
  have Hr := Lib.hid hr
  clear hr
  rcases hok : okPB ps with _ | _
  · have Hf := Lib.hid (show dpOkB ps = false by unfold dpOkB; rw [hok]; rfl)
    have Hok := Lib.hid hok
    clear hok
    go_enter Tryz.func7, Tryz.ntmps7
    go_wp2_with fail
    refine (pagesOk_spec A _ c ps hf hn _ Hr.out).mono ?_
    rintro e w1 ⟨rfl, hb1⟩
    rw [Hok.out]
    go_wp2
    go_ret
    exact ⟨ret_bool Hf.out.symm, hb1⟩
  · have Hf := Lib.hid (show dpOkB ps = dirOkB (pgL ps) by unfold dpOkB; rw [hok]; rfl)
    have Hok := Lib.hid hok
    clear hok
    go_enter Tryz.func7, Tryz.ntmps7
    go_wp2_with fail
    refine (pagesOk_spec A _ c ps hf hn _ Hr.out).mono ?_
    rintro e w1 ⟨rfl, hb1⟩
    rw [Hok.out]
    go_wp2_with fail
    refine (pgList_spec A _ c ps hf hn _ (Hr.out.next hb1)).mono ?_
    rintro e w2 ⟨v2, rfl, hown, hb2⟩
    obtain ⟨A2, c2, rfl, _, _, hr2⟩ := own_vals hown
    clear hown
    go_wp2_with fail
    refine (dirOk_spec _ _ _ _ (dp_names sm) _ (by omega) hr2).mono ?_
    rintro e w3 ⟨rfl, hb3⟩
    go_wp2
    go_ret
    exact ⟨ret_bool Hf.out.symm, belN (belN hb1 hb2) hb3⟩

end Go.Proofs.YtbchbmcphbeikaaGreatDoor
