/- What a look into a directory of a volume gives, and where names lead to: plain Lean. -/
import Derived.Test.YtjjniapamdleoaaGreatDoorRPVolA
import Derived.Test.YtjjniapamdleoaaGreatDoorRPLook
import Derived.Test.YtjjniapamdleoaaGreatDoorRPInoOk
namespace Go.Proofs.YtjjniapamdleoaaGreatDoor
open Go Go.RowKit

/-- What a call gives: a code, an id, a name, a text. -/
structure LkD where
 code : Int
 id : Int
 s : ByteArray
 d : ByteArray
def LkD.val (r : LkD) : Value := .agg #[.int .i64 r.code, .int .i64 r.id, .string r.s, .string r.d]
def LkD.bad (c : Int) : LkD := ⟨c, 0, ⟨#[]⟩, ⟨#[]⟩⟩
/-- A look for a name in the directory of an id. -/
noncomputable def lkP (xs : List InoD) (a : Int) (s : ByteArray) : LkD :=
 if plc xs a < 0 then .bad 2
 else match xs[(plc xs a).toNat]? with
  | none => .bad 2
  | some x => if x.kd = 2 then (match x.es.find? (fun e => alikeB e.s s) with
    | none => .bad 2
    | some e => match xs[(plc xs e.d).toNat]? with
     | none => .bad 2
     | some y => ⟨0, y.id, e.s, y.s⟩) else .bad 4
theorem lk_none {xs : List InoD} {a : Int} {s : ByteArray} (h : plc xs a = -1) : lkP xs a s = .bad 2 := by unfold lkP; rw [if_pos (by omega)]
theorem lk_file {xs : List InoD} {a : Int} {s : ByteArray} {k : Nat} (hk : k < xs.length) (h : plc xs a = (k : Int)) (hd : xs[k].kd ≠ 2) : lkP xs a s = .bad 4 := by
 unfold lkP; rw [if_neg (by omega), h, Int.toNat_natCast, List.getElem?_eq_getElem hk]; simp only; rw [if_neg hd]
theorem lk_miss {xs : List InoD} {a : Int} {s : ByteArray} {k : Nat} (hk : k < xs.length) (h : plc xs a = (k : Int)) (hd : xs[k].kd = 2) (hf : xs[k].es.find? (fun e => alikeB e.s s) = none) : lkP xs a s = .bad 2 := by
 unfold lkP; rw [if_neg (by omega), h, Int.toNat_natCast, List.getElem?_eq_getElem hk]; simp only; rw [if_pos hd, hf]
theorem lk_hit {xs : List InoD} {a : Int} {s : ByteArray} {k j : Nat} {e : EntD} (hk : k < xs.length) (h : plc xs a = (k : Int)) (hd : xs[k].kd = 2) (hf : xs[k].es.find? (fun e => alikeB e.s s) = some e) (hj : j < xs.length) (hp : plc xs e.d = (j : Int)) : lkP xs a s = ⟨0, xs[j].id, e.s, xs[j].s⟩ := by
 unfold lkP; rw [if_neg (by omega), h, Int.toNat_natCast, List.getElem?_eq_getElem hk]; simp only; rw [if_pos hd, hf]; simp only; rw [hp, Int.toNat_natCast, List.getElem?_eq_getElem hj]
/-- All that a look finds, case by case, in a right volume. -/
theorem lk_cases {nx : Int} {xs : List InoD} (hv : VolP nx xs) (a : Int) (s : ByteArray) :
  (plc xs a = -1 /\ lkP xs a s = .bad 2) ∨ ∃ (k : Nat) (hk : k < xs.length), plc xs a = (k : Int) /\ xs[k].id = a /\
   ((xs[k].kd ≠ 2 /\ lkP xs a s = .bad 4) ∨ (xs[k].kd = 2 /\ dirOkB xs[k].es = true /\
    ((xs[k].es.find? (fun e => alikeB e.s s) = none /\ lkP xs a s = .bad 2) ∨ ∃ (i : Nat) (hi : i < xs[k].es.length) (j : Nat) (hj : j < xs.length), xs[k].es.find? (fun e => alikeB e.s s) = some xs[k].es[i] /\ plc xs xs[k].es[i].d = (j : Int) /\ xs[j].id = xs[k].es[i].d /\ lkP xs a s = ⟨0, xs[j].id, xs[k].es[i].s, xs[j].s⟩))) := by
 rcases plc_cases xs a with ⟨h, _⟩ | ⟨k, hk, h, hid, _⟩
 ·exact .inl ⟨h, lk_none h⟩
 ·refine .inr ⟨k, hk, h, hid, ?_⟩
  by_cases hd : xs[k].kd = 2
  ·refine .inr ⟨hd, hv.dirOk (List.getElem_mem hk) hd, ?_⟩
   rcases hf : xs[k].es.find? (fun e => alikeB e.s s) with _ | e
   ·exact .inl ⟨hf, lk_miss hk h hd hf⟩
   ·obtain ⟨i, hi, rfl⟩ := List.getElem_of_mem (List.mem_of_find?_eq_some hf)
    obtain ⟨_, h1⟩ := hv.not1 (List.getElem_mem hk) (List.getElem_mem hi)
    obtain ⟨j, hj, hp, hjd⟩ := plc_lt h1
    exact .inr ⟨i, hi, j, hj, hf, hp, hjd, lk_hit hk h hd hf hj hp⟩
  ·exact .inl ⟨hd, lk_file hk h hd⟩

section
variable {nx : Int} {xs : List InoD}
theorem es_len (hv : VolP nx xs) {x : InoD} (hx : x ∈ xs) : x.es.length <= 12 := by
 by_cases he : x.es = []
 ·rw [he]; simp
 ·have := hv.dirOk hx (hv.dir hx he)
  exact (dirP_iff.1 (dirOkB_iff.1 this)).1
end

/-- Where names lead to, and the code. -/
noncomputable def wkP (xs : List InoD) (a : Int) : List ByteArray -> Int × Int
 | [] => (a, 0)
 | s :: l => if (lkP xs a s).code = 0 then wkP xs (lkP xs a s).id l else (0, (lkP xs a s).code)
theorem wk_step {xs : List InoD} {a : Int} {l : List ByteArray} {k : Nat} (hk : k < l.length) (h : (lkP xs a l[k]).code = 0) : wkP xs a (l.drop k) = wkP xs (lkP xs a l[k]).id (l.drop (k + 1)) := by
 rw [List.drop_eq_getElem_cons hk, wkP, if_pos h]
theorem wk_stop {xs : List InoD} {a : Int} {l : List ByteArray} {k : Nat} (hk : k < l.length) (h : (lkP xs a l[k]).code ≠ 0) : wkP xs a (l.drop k) = (0, (lkP xs a l[k]).code) := by
 rw [List.drop_eq_getElem_cons hk, wkP, if_neg h]
theorem wk_end {xs : List InoD} {a : Int} {l : List ByteArray} {k : Nat} (hk : l.length <= k) : wkP xs a (l.drop k) = (a, 0) := by rw [List.drop_eq_nil_of_le hk]; rfl
/-- What Walk gives. -/
noncomputable def walkP (V : VolD) (p : List ByteArray × Bool) : Int × Int := if p.2 = true /\ volOkB V.nx V.xs = true then wkP V.xs 1 p.1 else (0, 1)
theorem walk_bad {V : VolD} {p : List ByteArray × Bool} (h : p.2 = false ∨ volOkB V.nx V.xs = false) : walkP V p = (0, 1) := by
 unfold walkP; rw [if_neg]; rintro ⟨h1, h2⟩; rcases h with h | h
 ·rw [h] at h1; cases h1
 ·rw [h] at h2; cases h2
theorem walk_ok {V : VolD} {p : List ByteArray × Bool} (h1 : p.2 = true) (h2 : volOkB V.nx V.xs = true) : walkP V p = wkP V.xs 1 p.1 := by unfold walkP; rw [if_pos ⟨h1, h2⟩]
theorem vol_at {w : World} {x : Int} {A : Option Addr} {n c : Nat} {V : VolD} (h : IsVolC w (.agg #[.int .i64 x, .slice A n c]) V) : x = V.nx /\ n = V.xs.length /\ VAt w w.heap.size A n V.xs /\ n <= c := by
 obtain ⟨A', c', he, hv, hc⟩ := h
 simp at he
 obtain ⟨h1, h2, h3, h4⟩ := he
 subst h2 h3 h4
 exact ⟨h1, rfl, hv, hc⟩

end Go.Proofs.YtjjniapamdleoaaGreatDoor
