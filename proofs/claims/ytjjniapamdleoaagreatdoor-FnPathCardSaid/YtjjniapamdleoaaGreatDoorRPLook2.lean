/- An entry by a name, of a directory and of pages, in both packages. -/
import Derived.Test.YtjjniapamdleoaaGreatDoorRPLook
namespace Go.Proofs.YtjjniapamdleoaaGreatDoor
open Go Go.RowKit
set_option maxHeartbeats 4000000
set_option maxRecDepth 100000

theorem look_impl (A : Option Addr) (n c : Nat) (ds : List EntD) (hz : ∀ e ∈ ds, e.s.size <= 2000000) (hn : n <= 9223372036854775807) (s : ByteArray) (hs : s.size <= 2000000) (w : World) (hT : Tab w) (hr : Reads w w.heap.size 4 A n (ES ds)) :
  Calls Tryz.prog 153 #[.slice A n c, .string s] w fun e w' => EntPost (lookP ds s) e /\ Below w.heap.size w w' := by
 have hl : ds.length = n := by have := hr.1; rw [ES_length] at this; omega
 have Hr := Lib.hid hr
 have Hz := Lib.hid hz
 have HL := Lib.hid hl
 have HT := Lib.hid hT
 clear hT
 clear hr hz hl
 have hR0 := Lib.hid ((Hr.out.below (belA (bel0 w) (.cells #[.int .i64 0, .int .i64 0, .string ⟨#[]⟩, .int .i64 0] 38))).more (by simp : w.heap.size <= (w.alloc (.cells #[.int .i64 0, .int .i64 0, .string ⟨#[]⟩, .int .i64 0] 38)).heap.size))
 rcases hok : dirOkB ds with _ | _
 ·have Hf := Lib.hid (lookP_bad (s := s) hok)
  have Hok := Lib.hid hok
  clear hok
  go_enter Tryz.func153, Tryz.ntmps153
  go_wp2_with fail
  refine (entAt_impl A n c ds Hz.out hn s hs _ (HT.out.al _) hR0.out).mono ?_
  rintro e w1 ⟨r, rfl, hat, hb1⟩
  have hB := (Blk.new' w 38 #[.int .i64 0, .int .i64 0, .string ⟨#[]⟩, .int .i64 0] w.heap.size).below hb1 (by simp)
  have b1 := belN (belA (bel0 w) _) hb1
  rcases at_neg hat with rfl | ⟨k, hk, rfl⟩
  ·clear hat
   obtain ⟨c0, c1, c2, c3⟩ := hB.g4
   obtain ⟨f0, f1, f2, f3⟩ := hB.f4
   have hlt := hB.lt
   go_wp2
   refine bodyPost_ret (v := .tuple #[.agg #[.int .i64 0, .int .i64 0, .string ⟨#[]⟩, .int .i64 0], .bool false]) (by simp [results, Tryz.results153, go_sem, c0, c1, c2, c3]) rfl ⟨entPost_end Hf.out rfl, ?_⟩
   repeat (first | exact b1 | apply Below.drew | refine belA ?_ _ | refine belC ?_ _ _ (by omega) _)
  ·clear hat
   have q0 : (0 : Int) <= ↑k := by omega
   go_wp2_with fail
   refine (dirOk_impl A n c ds Hz.out _ ((HT.out.al _).bl hb1) hn ((hR0.out.below hb1).more hb1.size)).mono ?_
   rintro e w2 ⟨rfl, hb2⟩
   rw [Hok.out]
   have hB2 := hB.below hb2 hB.lt
   have b2 := belN b1 hb2
   obtain ⟨c0, c1, c2, c3⟩ := hB2.g4
   obtain ⟨f0, f1, f2, f3⟩ := hB2.f4
   have hlt := hB2.lt
   go_wp2
   refine bodyPost_ret (v := .tuple #[.agg #[.int .i64 0, .int .i64 0, .string ⟨#[]⟩, .int .i64 0], .bool false]) (by simp [results, Tryz.results153, go_sem, c0, c1, c2, c3]) rfl ⟨entPost_end Hf.out rfl, ?_⟩
   repeat (first | exact b2 | apply Below.drew | refine belA ?_ _ | refine belC ?_ _ _ (by omega) _)
 ·have Hok := Lib.hid hok
  clear hok
  go_enter Tryz.func153, Tryz.ntmps153
  go_wp2_with fail
  refine (entAt_impl A n c ds Hz.out hn s hs _ (HT.out.al _) hR0.out).mono ?_
  rintro e w1 ⟨r, rfl, hat, hb1⟩
  have hB := (Blk.new' w 38 #[.int .i64 0, .int .i64 0, .string ⟨#[]⟩, .int .i64 0] w.heap.size).below hb1 (by simp)
  have b1 := belN (belA (bel0 w) _) hb1
  rcases at_idx Hok.out hat with ⟨rfl, hfd⟩ | ⟨k, hk, rfl, hfd⟩
  ·have Hf := Lib.hid (lookP_none Hok.out hfd)
   clear hat hfd
   obtain ⟨c0, c1, c2, c3⟩ := hB.g4
   obtain ⟨f0, f1, f2, f3⟩ := hB.f4
   have hlt := hB.lt
   go_wp2
   refine bodyPost_ret (v := .tuple #[.agg #[.int .i64 0, .int .i64 0, .string ⟨#[]⟩, .int .i64 0], .bool false]) (by simp [results, Tryz.results153, go_sem, c0, c1, c2, c3]) rfl ⟨entPost_end Hf.out rfl, ?_⟩
   repeat (first | exact b1 | apply Below.drew | refine belA ?_ _ | refine belC ?_ _ _ (by omega) _)
  ·clear hat
   have hkn : k < n := by have := HL.out; omega
   have q0 : (0 : Int) <= ↑k := by omega
   go_wp2_with fail
   refine (dirOk_impl A n c ds Hz.out _ ((HT.out.al _).bl hb1) hn ((hR0.out.below hb1).more hb1.size)).mono ?_
   rintro e w2 ⟨rfl, hb2⟩
   rw [Hok.out]
   have hB2 := hB.below hb2 hB.lt
   have b2 := belN b1 hb2
   obtain ⟨hkx, b, o, rfl, hadb, z0, z1, z2, z3⟩ := reads_ent (Hr.out.below b2) (k := k) (by omega)
   have q1 : (↑k : Int) < ↑n := by omega
   obtain ⟨E, hE⟩ : ∃ E, ds[k] = E := ⟨_, rfl⟩
   rw [hE] at z0 z1 z2 z3 hfd
   have Hf := Lib.hid (lookP_some Hok.out hfd)
   have nb : b ≠ w.heap.size := by omega
   clear hE hfd
   obtain ⟨c0, c1, c2, c3⟩ := hB2.g4
   obtain ⟨f0, f1, f2, f3⟩ := hB2.f4
   have hlt := hB2.lt
   have hF := ((((hB2.put 0 (.int .i64 E.h) #[.int .i64 E.h, .int .i64 0, .string ⟨#[]⟩, .int .i64 0] rfl).put 1 (.int .i64 E.i) #[.int .i64 E.h, .int .i64 E.i, .string ⟨#[]⟩, .int .i64 0] rfl).put 2 (.string E.s) #[.int .i64 E.h, .int .i64 E.i, .string E.s, .int .i64 0] rfl).put 3 (.int .i64 E.d) #[.int .i64 E.h, .int .i64 E.i, .string E.s, .int .i64 E.d] rfl)
   have r0 := Lib.hid (hF.get (x := .int .i64 E.h) 0 rfl)
   have r1 := Lib.hid (hF.get (x := .int .i64 E.i) 1 rfl)
   have r2 := Lib.hid (hF.get (x := .string E.s) 2 rfl)
   have r3 := Lib.hid (hF.get (x := .int .i64 E.d) 3 rfl)
   go_wp2
   refine bodyPost_ret (v := .tuple #[.agg #[.int .i64 E.h, .int .i64 E.i, .string E.s, .int .i64 E.d], .bool true]) (by simp [results, Tryz.results153, go_sem, r0.out, r1.out, r2.out, r3.out]) rfl ⟨entPost_end Hf.out rfl, ?_⟩
   repeat (first | exact b2 | apply Below.drew | refine belA ?_ _ | refine belC ?_ _ _ (by omega) _)

end Go.Proofs.YtjjniapamdleoaaGreatDoor
