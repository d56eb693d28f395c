/- An entry by a name, of a directory and of pages, in both packages. -/
import Derived.Test.YtjjniapamdleoaaGreatDoorRCVolA
import Derived.Test.YtjjniapamdleoaaGreatDoorRCLook
import Derived.Test.YtjjniapamdleoaaGreatDoorRCInoOk
namespace Go.Proofs.YtjjniapamdleoaaGreatDoor
open Go Go.RowKit
set_option maxHeartbeats 4000000
set_option maxRecDepth 100000

/-- What a call gives: a code, an id, a name, a text. -/
structure LkD where
 code : Int
 id : Int
 s : ByteArray
 d : ByteArray
def LkD.val (r : LkD) : Value := .agg #[.int .i64 r.code, .int .i64 r.id, .string r.s, .string r.d]
def LkD.bad (c : Int) : LkD := ⟨c, 0, ⟨#[]⟩, ⟨#[]⟩⟩
/-- A look for a name in the directory of an id. -/
noncomputable def lkP (xs : List InoD) (a : Int) (s : ByteArray) : LkD :=
 if plc xs a < 0 then .bad 2
 else match xs[(plc xs a).toNat]? with
  | none => .bad 2
  | some x => if x.kd = 2 then (match x.es.find? (fun e => alikeB e.s s) with
    | none => .bad 2
    | some e => match xs[(plc xs e.d).toNat]? with
     | none => .bad 2
     | some y => ⟨0, y.id, e.s, y.s⟩) else .bad 4
theorem lk_none {xs : List InoD} {a : Int} {s : ByteArray} (h : plc xs a = -1) : lkP xs a s = .bad 2 := by unfold lkP; rw [if_pos (by omega)]
theorem lk_file {xs : List InoD} {a : Int} {s : ByteArray} {k : Nat} (hk : k < xs.length) (h : plc xs a = (k : Int)) (hd : xs[k].kd ≠ 2) : lkP xs a s = .bad 4 := by
 unfold lkP; rw [if_neg (by omega), h, Int.toNat_natCast, List.getElem?_eq_getElem hk]; simp only; rw [if_neg hd]
theorem lk_miss {xs : List InoD} {a : Int} {s : ByteArray} {k : Nat} (hk : k < xs.length) (h : plc xs a = (k : Int)) (hd : xs[k].kd = 2) (hf : xs[k].es.find? (fun e => alikeB e.s s) = none) : lkP xs a s = .bad 2 := by
 unfold lkP; rw [if_neg (by omega), h, Int.toNat_natCast, List.getElem?_eq_getElem hk]; simp only; rw [if_pos hd, hf]
theorem lk_hit {xs : List InoD} {a : Int} {s : ByteArray} {k j : Nat} {e : EntD} (hk : k < xs.length) (h : plc xs a = (k : Int)) (hd : xs[k].kd = 2) (hf : xs[k].es.find? (fun e => alikeB e.s s) = some e) (hj : j < xs.length) (hp : plc xs e.d = (j : Int)) : lkP xs a s = ⟨0, xs[j].id, e.s, xs[j].s⟩ := by
 unfold lkP; rw [if_neg (by omega), h, Int.toNat_natCast, List.getElem?_eq_getElem hk]; simp only; rw [if_pos hd, hf]; simp only; rw [hp, Int.toNat_natCast, List.getElem?_eq_getElem hj]
/-- All that a look finds, case by case, in a right volume. -/
theorem lk_cases {nx : Int} {xs : List InoD} (hv : VolP nx xs) (a : Int) (s : ByteArray) :
  (plc xs a = -1 /\ lkP xs a s = .bad 2) ∨ ∃ (k : Nat) (hk : k < xs.length), plc xs a = (k : Int) /\ xs[k].id = a /\
   ((xs[k].kd ≠ 2 /\ lkP xs a s = .bad 4) ∨ (xs[k].kd = 2 /\ dirOkB xs[k].es = true /\
    ((xs[k].es.find? (fun e => alikeB e.s s) = none /\ lkP xs a s = .bad 2) ∨ ∃ (i : Nat) (hi : i < xs[k].es.length) (j : Nat) (hj : j < xs.length), xs[k].es.find? (fun e => alikeB e.s s) = some xs[k].es[i] /\ plc xs xs[k].es[i].d = (j : Int) /\ xs[j].id = xs[k].es[i].d /\ lkP xs a s = ⟨0, xs[j].id, xs[k].es[i].s, xs[j].s⟩))) := by
 rcases plc_cases xs a with ⟨h, _⟩ | ⟨k, hk, h, hid, _⟩
 ·exact .inl ⟨h, lk_none h⟩
 ·refine .inr ⟨k, hk, h, hid, ?_⟩
  by_cases hd : xs[k].kd = 2
  ·refine .inr ⟨hd, hv.dirOk (List.getElem_mem hk) hd, ?_⟩
   rcases hf : xs[k].es.find? (fun e => alikeB e.s s) with _ | e
   ·exact .inl ⟨hf, lk_miss hk h hd hf⟩
   ·obtain ⟨i, hi, rfl⟩ := List.getElem_of_mem (List.mem_of_find?_eq_some hf)
    obtain ⟨_, h1⟩ := hv.not1 (List.getElem_mem hk) (List.getElem_mem hi)
    obtain ⟨j, hj, hp, hjd⟩ := plc_lt h1
    exact .inr ⟨i, hi, j, hj, hf, hp, hjd, lk_hit hk h hd hf hj hp⟩
  ·exact .inl ⟨hd, lk_file hk h hd⟩

section
variable {nx : Int} {xs : List InoD}
theorem es_len (hv : VolP nx xs) {x : InoD} (hx : x ∈ xs) : x.es.length <= 12 := by
 by_cases he : x.es = []
 ·rw [he]; simp
 ·have := hv.dirOk hx (hv.dir hx he)
  exact (dirP_iff.1 (dirOkB_iff.1 this)).1
end

/-- Where names lead to, and the code. -/
noncomputable def wkP (xs : List InoD) (a : Int) : List ByteArray -> Int × Int
 | [] => (a, 0)
 | s :: l => if (lkP xs a s).code = 0 then wkP xs (lkP xs a s).id l else (0, (lkP xs a s).code)
theorem wk_step {xs : List InoD} {a : Int} {l : List ByteArray} {k : Nat} (hk : k < l.length) (h : (lkP xs a l[k]).code = 0) : wkP xs a (l.drop k) = wkP xs (lkP xs a l[k]).id (l.drop (k + 1)) := by
 rw [List.drop_eq_getElem_cons hk, wkP, if_pos h]
theorem wk_stop {xs : List InoD} {a : Int} {l : List ByteArray} {k : Nat} (hk : k < l.length) (h : (lkP xs a l[k]).code ≠ 0) : wkP xs a (l.drop k) = (0, (lkP xs a l[k]).code) := by
 rw [List.drop_eq_getElem_cons hk, wkP, if_neg h]
theorem wk_end {xs : List InoD} {a : Int} {l : List ByteArray} {k : Nat} (hk : l.length <= k) : wkP xs a (l.drop k) = (a, 0) := by rw [List.drop_eq_nil_of_le hk]; rfl
/-- The id that a look finds is the id of an inode. -/
theorem lk_id {nx : Int} {xs : List InoD} (hv : VolP nx xs) {a : Int} {s : ByteArray} (h : (lkP xs a s).code = 0) : 0 <= plc xs (lkP xs a s).id := by
 rcases lk_cases hv a s with ⟨_, h1⟩ | ⟨k, hk, h0, _, ⟨_, h1⟩ | ⟨_, _, ⟨_, h1⟩ | ⟨i, hi, j, hj, _, h2, h3, h1⟩⟩⟩
 ·rw [h1] at h; exact absurd h (by simp [LkD.bad])
 ·rw [h1] at h; exact absurd h (by simp [LkD.bad])
 ·rw [h1] at h; exact absurd h (by simp [LkD.bad])
 ·rw [h1]; simp only; rw [h3, h2]; omega
theorem wk_id {nx : Int} {xs : List InoD} (hv : VolP nx xs) : ∀ (l : List ByteArray) (a : Int), 0 <= plc xs a -> (wkP xs a l).2 = 0 -> 0 <= plc xs (wkP xs a l).1
 | [], a, h, _ => h
 | s :: l, a, _, h => by
  unfold wkP at h ⊢
  split at h
  ·rename_i h0; rw [if_pos h0]; exact wk_id hv l _ (lk_id hv h0) h
  ·rename_i h0; exact absurd h h0
/-- What Walk gives. -/
noncomputable def walkP (V : VolD) (p : List ByteArray × Bool) : Int × Int := if p.2 = true /\ volOkB V.nx V.xs = true then wkP V.xs 1 p.1 else (0, 1)
theorem walk_bad {V : VolD} {p : List ByteArray × Bool} (h : p.2 = false ∨ volOkB V.nx V.xs = false) : walkP V p = (0, 1) := by
 unfold walkP; rw [if_neg]; rintro ⟨h1, h2⟩; rcases h with h | h
 ·rw [h] at h1; cases h1
 ·rw [h] at h2; cases h2
theorem walk_ok {V : VolD} {p : List ByteArray × Bool} (h1 : p.2 = true) (h2 : volOkB V.nx V.xs = true) : walkP V p = wkP V.xs 1 p.1 := by unfold walkP; rw [if_pos ⟨h1, h2⟩]
theorem vol_at {w : World} {x : Int} {A : Option Addr} {n c : Nat} {V : VolD} (h : IsVolC w (.agg #[.int .i64 x, .slice A n c]) V) : x = V.nx /\ n = V.xs.length /\ VAt w w.heap.size A n V.xs /\ n <= c := by
 obtain ⟨A', c', he, hv, hc⟩ := h
 simp at he
 obtain ⟨h1, h2, h3, h4⟩ := he
 subst h2 h3 h4
 exact ⟨h1, rfl, hv, hc⟩

theorem look_impl (A : Option Addr) (n c : Nat) (ds : List EntD) (hz : ∀ e ∈ ds, e.s.size <= 2000000) (hn : n <= 9223372036854775807) (s : ByteArray) (hs : s.size <= 2000000) (w : World) (hT : Tab w) (hr : Reads w w.heap.size 4 A n (ES ds)) :
  Calls Tryz.prog 153 #[.slice A n c, .string s] w fun e w' => EntPost (lookP ds s) e /\ Below w.heap.size w w' := by
 have hl : ds.length = n := by have := hr.1; rw [ES_length] at this; omega
 have Hr := Lib.hid hr
 have Hz := Lib.hid hz
 have HL := Lib.hid hl
 have HT := Lib.hid hT
 clear hT
 clear hr hz hl
 have hR0 := Lib.hid ((Hr.out.below (belA (bel0 w) (.cells #[.int .i64 0, .int .i64 0, .string ⟨#[]⟩, .int .i64 0] 38))).more (by simp : w.heap.size <= (w.alloc (.cells #[.int .i64 0, .int .i64 0, .string ⟨#[]⟩, .int .i64 0] 38)).heap.size))
 rcases hok : dirOkB ds with _ | _
 ·have Hf := Lib.hid (lookP_bad (s := s) hok)
  have Hok := Lib.hid hok
  clear hok
  go_enter Tryz.func153, Tryz.ntmps153
  go_wp2_with fail
  refine (entAt_impl A n c ds Hz.out hn s hs _ (HT.out.al _) hR0.out).mono ?_
  rintro e w1 ⟨r, rfl, hat, hb1⟩
  have hB := (Blk.new' w 38 #[.int .i64 0, .int .i64 0, .string ⟨#[]⟩, .int .i64 0] w.heap.size).below hb1 (by simp)
  have b1 := belN (belA (bel0 w) _) hb1
  rcases at_neg hat with rfl | ⟨k, hk, rfl⟩
  ·clear hat
   obtain ⟨c0, c1, c2, c3⟩ := hB.g4
   obtain ⟨f0, f1, f2, f3⟩ := hB.f4
   have hlt := hB.lt
   go_wp2
   refine bodyPost_ret (v := .tuple #[.agg #[.int .i64 0, .int .i64 0, .string ⟨#[]⟩, .int .i64 0], .bool false]) (by simp [results, Tryz.results153, go_sem, c0, c1, c2, c3]) rfl ⟨entPost_end Hf.out rfl, ?_⟩
   repeat (first | exact b1 | apply Below.drew | refine belA ?_ _ | refine belC ?_ _ _ (by omega) _)
  ·clear hat
   have q0 : (0 : Int) <= ↑k := by omega
   go_wp2_with fail
   refine (dirOk_impl A n c ds Hz.out _ ((HT.out.al _).bl hb1) hn ((hR0.out.below hb1).more hb1.size)).mono ?_
   rintro e w2 ⟨rfl, hb2⟩
   rw [Hok.out]
   have hB2 := hB.below hb2 hB.lt
   have b2 := belN b1 hb2
   obtain ⟨c0, c1, c2, c3⟩ := hB2.g4
   obtain ⟨f0, f1, f2, f3⟩ := hB2.f4
   have hlt := hB2.lt
   go_wp2
   refine bodyPost_ret (v := .tuple #[.agg #[.int .i64 0, .int .i64 0, .string ⟨#[]⟩, .int .i64 0], .bool false]) (by simp [results, Tryz.results153, go_sem, c0, c1, c2, c3]) rfl ⟨entPost_end Hf.out rfl, ?_⟩
   repeat (first | exact b2 | apply Below.drew | refine belA ?_ _ | refine belC ?_ _ _ (by omega) _)
 ·have Hok := Lib.hid hok
  clear hok
  go_enter Tryz.func153, Tryz.ntmps153
  go_wp2_with fail
  refine (entAt_impl A n c ds Hz.out hn s hs _ (HT.out.al _) hR0.out).mono ?_
  rintro e w1 ⟨r, rfl, hat, hb1⟩
  have hB := (Blk.new' w 38 #[.int .i64 0, .int .i64 0, .string ⟨#[]⟩, .int .i64 0] w.heap.size).below hb1 (by simp)
  have b1 := belN (belA (bel0 w) _) hb1
  rcases at_idx Hok.out hat with ⟨rfl, hfd⟩ | ⟨k, hk, rfl, hfd⟩
  ·have Hf := Lib.hid (lookP_none Hok.out hfd)
   clear hat hfd
   obtain ⟨c0, c1, c2, c3⟩ := hB.g4
   obtain ⟨f0, f1, f2, f3⟩ := hB.f4
   have hlt := hB.lt
   go_wp2
   refine bodyPost_ret (v := .tuple #[.agg #[.int .i64 0, .int .i64 0, .string ⟨#[]⟩, .int .i64 0], .bool false]) (by simp [results, Tryz.results153, go_sem, c0, c1, c2, c3]) rfl ⟨entPost_end Hf.out rfl, ?_⟩
   repeat (first | exact b1 | apply Below.drew | refine belA ?_ _ | refine belC ?_ _ _ (by omega) _)
  ·clear hat
   have hkn : k < n := by have := HL.out; omega
   have q0 : (0 : Int) <= ↑k := by omega
   go_wp2_with fail
   refine (dirOk_impl A n c ds Hz.out _ ((HT.out.al _).bl hb1) hn ((hR0.out.below hb1).more hb1.size)).mono ?_
   rintro e w2 ⟨rfl, hb2⟩
   rw [Hok.out]
   have hB2 := hB.below hb2 hB.lt
   have b2 := belN b1 hb2
   obtain ⟨hkx, b, o, rfl, hadb, z0, z1, z2, z3⟩ := reads_ent (Hr.out.below b2) (k := k) (by omega)
   have q1 : (↑k : Int) < ↑n := by omega
   obtain ⟨E, hE⟩ : ∃ E, ds[k] = E := ⟨_, rfl⟩
   rw [hE] at z0 z1 z2 z3 hfd
   have Hf := Lib.hid (lookP_some Hok.out hfd)
   have nb : b ≠ w.heap.size := by omega
   clear hE hfd
   obtain ⟨c0, c1, c2, c3⟩ := hB2.g4
   obtain ⟨f0, f1, f2, f3⟩ := hB2.f4
   have hlt := hB2.lt
   have hF := ((((hB2.put 0 (.int .i64 E.h) #[.int .i64 E.h, .int .i64 0, .string ⟨#[]⟩, .int .i64 0] rfl).put 1 (.int .i64 E.i) #[.int .i64 E.h, .int .i64 E.i, .string ⟨#[]⟩, .int .i64 0] rfl).put 2 (.string E.s) #[.int .i64 E.h, .int .i64 E.i, .string E.s, .int .i64 0] rfl).put 3 (.int .i64 E.d) #[.int .i64 E.h, .int .i64 E.i, .string E.s, .int .i64 E.d] rfl)
   have r0 := Lib.hid (hF.get (x := .int .i64 E.h) 0 rfl)
   have r1 := Lib.hid (hF.get (x := .int .i64 E.i) 1 rfl)
   have r2 := Lib.hid (hF.get (x := .string E.s) 2 rfl)
   have r3 := Lib.hid (hF.get (x := .int .i64 E.d) 3 rfl)
   go_wp2
   refine bodyPost_ret (v := .tuple #[.agg #[.int .i64 E.h, .int .i64 E.i, .string E.s, .int .i64 E.d], .bool true]) (by simp [results, Tryz.results153, go_sem, r0.out, r1.out, r2.out, r3.out]) rfl ⟨entPost_end Hf.out rfl, ?_⟩
   repeat (first | exact b2 | apply Below.drew | refine belA ?_ _ | refine belC ?_ _ _ (by omega) _)

end Go.Proofs.YtjjniapamdleoaaGreatDoor
