/- Slices of texts: parts of a text, marks. -/
import Derived.Test.YtjjniapamdleoaaGreatDoorRCIsPg
import Derived.BigQuiet
import Derived.Test.YtjjniapamdleoaaGreatDoorRCBase
namespace Go.Proofs.YtjjniapamdleoaaGreatDoor
open Go Go.RowKit
set_option maxHeartbeats 2000000
set_option maxRecDepth 100000

theorem Tryz.el_ent : ElemOk Tryz.prog 34 38 (.agg #[.int .i64 0, .int .i64 0, .string ⟨#[]⟩, .int .i64 0]) 4 40 := ⟨Tryz.underlying34, by kernel_rfl, rfl, by omega⟩

/-- An entry stands behind a place; ahead of it. -/
def behB (e : EntD) (h i : Int) : Bool := decide (h < e.h) || (decide (e.h = h) && decide (i < e.i))
def lessB (e : EntD) (h i : Int) : Bool := decide (e.h < h) || (decide (e.h = h) && decide (e.i < i))
theorem less_beh (a b : EntD) : lessB a b.h b.i = behB b a.h a.i := by
 unfold lessB behB
 rw [show (decide (a.h = b.h)) = decide (b.h = a.h) from by simp [eq_comm]]

theorem isBehind_any (e : EntD) (x y : Int) (w : World) :
  Calls Tryz.prog 125 #[e.val, .int .i64 x, .int .i64 y] w fun r w' => r = .returned (.bool (behB e x y)) /\ Below w.heap.size w w' := by
 obtain ⟨h, i, s, d⟩ := e
 simp only [EntD.val]
 by_cases h1 : x < h
 ·have Hf := Lib.hid (show behB ⟨h, i, s, d⟩ x y = true by simp [behB, h1])
  go_enter Tryz.func125, Tryz.ntmps125
  go_wp2
  go_ret
  exact ⟨ret_bool Hf.out.symm, belA (bel0 w) _⟩
 ·by_cases h2 : h = x
  ·have h2' : (h == x) = true := by simp [h2]
   by_cases h3 : y < i
   ·have Hf := Lib.hid (show behB ⟨h, i, s, d⟩ x y = true by simp [behB, h2, h3])
    clear h2
    go_enter Tryz.func125, Tryz.ntmps125
    go_wp2
    go_ret
    exact ⟨ret_bool Hf.out.symm, belA (bel0 w) _⟩
   ·have Hf := Lib.hid (show behB ⟨h, i, s, d⟩ x y = false by simp [behB]; omega)
    clear h2
    go_enter Tryz.func125, Tryz.ntmps125
    go_wp2
    go_ret
    exact ⟨ret_bool Hf.out.symm, belA (bel0 w) _⟩
  ·have h2' : (h == x) = false := by simp [h2]
   have Hf := Lib.hid (show behB ⟨h, i, s, d⟩ x y = false by simp [behB]; omega)
   clear h2
   go_enter Tryz.func125, Tryz.ntmps125
   go_wp2
   go_ret
   exact ⟨ret_bool Hf.out.symm, belA (bel0 w) _⟩

theorem l5Less_any (e : EntD) (x y : Int) (w : World) :
  Calls Tryz.prog 128 #[e.val, .int .i64 x, .int .i64 y] w fun r w' => r = .returned (.bool (lessB e x y)) /\ Below w.heap.size w w' := by
 obtain ⟨h, i, s, d⟩ := e
 simp only [EntD.val]
 by_cases h1 : h < x
 ·have Hf := Lib.hid (show lessB ⟨h, i, s, d⟩ x y = true by simp [lessB, h1])
  go_enter Tryz.func128, Tryz.ntmps128
  go_wp2
  go_ret
  exact ⟨ret_bool Hf.out.symm, belA (bel0 w) _⟩
 ·by_cases h2 : h = x
  ·have h2' : (h == x) = true := by simp [h2]
   by_cases h3 : i < y
   ·have Hf := Lib.hid (show lessB ⟨h, i, s, d⟩ x y = true by simp [lessB, h2, h3])
    clear h2
    go_enter Tryz.func128, Tryz.ntmps128
    go_wp2
    go_ret
    exact ⟨ret_bool Hf.out.symm, belA (bel0 w) _⟩
   ·have Hf := Lib.hid (show lessB ⟨h, i, s, d⟩ x y = false by simp [lessB]; omega)
    clear h2
    go_enter Tryz.func128, Tryz.ntmps128
    go_wp2
    go_ret
    exact ⟨ret_bool Hf.out.symm, belA (bel0 w) _⟩
  ·have h2' : (h == x) = false := by simp [h2]
   have Hf := Lib.hid (show lessB ⟨h, i, s, d⟩ x y = false by simp [lessB]; omega)
   clear h2
   go_enter Tryz.func128, Tryz.ntmps128
   go_wp2
   go_ret
   exact ⟨ret_bool Hf.out.symm, belA (bel0 w) _⟩

theorem find_hit {p : EntD -> Bool} {a r : List EntD} {x : EntD} (h : a.find? p = none) (hx : p x = true) : (a ++ x :: r).find? p = some x := by rw [List.find?_append, h]; simp [hx]
theorem find_miss {p : EntD -> Bool} {a : List EntD} {x : EntD} (h : a.find? p = none) (hx : p x = false) : (a ++ [x]).find? p = none := by rw [List.find?_append, h]; simp [hx]

theorem Tryz.el_str : ElemOk Tryz.prog 29 9 (.string ⟨#[]⟩) 1 16 := ⟨Tryz.underlying29, by kernel_rfl, rfl, by omega⟩

/-- Texts as cells. -/
def SS (l : List ByteArray) : List Value := l.map .string
theorem SS_append (a b : List ByteArray) : SS (a ++ b) = SS a ++ SS b := by simp [SS]
theorem SS_length (l : List ByteArray) : (SS l).length = l.length := by simp [SS]
theorem SS_get (l : List ByteArray) (k : Nat) (h : k < l.length) : (SS l)[k]? = some (.string l[k]) := by simp [SS, h]
theorem SS_cells (l : List ByteArray) : ∀ u ∈ SS l, u.oneCell' = true := by
 intro u hu
 simp only [SS, List.mem_map] at hu
 obtain ⟨b, _, rfl⟩ := hu
 rfl
theorem reads_str {w : World} {B n : Nat} {A : Option Addr} {xs : List ByteArray} (h : Reads w B 1 A n (SS xs)) {k : Nat} (hk : k < n) : ∃ (hk' : k < xs.length) (ad : Addr), A = some ad /\ ad.block < B /\ w.cell? (ad.add k) = some (.string xs[k]) := by
 obtain ⟨ad, u, h1, h2, h3, h4⟩ := h.at_ hk
 have hl : k < xs.length := by have := h.1; rw [SS_length] at this; omega
 rw [SS_get _ _ hl] at h3
 injection h3 with h3
 exact ⟨hl, ad, h1, h2, by rw [h4, h3]⟩
/-- A text's parts between bytes of one kind. -/
def splitL (by_ : UInt8) : List UInt8 -> List (List UInt8)
 | [] => [[]]
 | b :: l => if b = by_ then [] :: splitL by_ l else
  match splitL by_ l with
  | [] => [[b]]
  | p :: ps => (b :: p) :: ps
/-- The first part with something ahead of it. -/
def glue (c : List UInt8) : List (List UInt8) -> List (List UInt8)
 | [] => [c]
 | p :: ps => (c ++ p) :: ps
theorem splitL_ne (x : UInt8) : ∀ l, splitL x l ≠ []
 | [] => by simp [splitL]
 | b :: l => by
  rw [splitL]
  split
  ·simp
  ·cases h : splitL x l with
   | nil => simp
   | cons => simp
theorem glue_nil (x : UInt8) (l : List UInt8) : glue [] (splitL x l) = splitL x l := by
 cases h : splitL x l with
 | nil => exact absurd h (splitL_ne x l)
 | cons => simp [glue]
theorem glue_hit (x : UInt8) (c l : List UInt8) : glue c (splitL x (x :: l)) = c :: splitL x l := by rw [splitL, if_pos rfl, glue]; simp
theorem glue_miss {x b : UInt8} (c l : List UInt8) (h : b ≠ x) : glue c (splitL x (b :: l)) = glue (c ++ [b]) (splitL x l) := by
 rw [splitL, if_neg h]
 cases h : splitL x l with
 | nil => exact absurd h (splitL_ne x l)
 | cons => simp [glue]
theorem glue_end (x : UInt8) (c : List UInt8) : glue c (splitL x []) = [c] := by simp [splitL, glue]
theorem splitL_len (x : UInt8) : ∀ l, (splitL x l).length <= l.length + 1
 | [] => by simp [splitL]
 | b :: l => by
  have := splitL_len x l
  rw [splitL]
  split
  ·simp; omega
  ·cases h : splitL x l with
   | nil => simp
   | cons => rw [h] at this; simp at this ⊢; omega
def splitB (s : ByteArray) (x : UInt8) : List ByteArray := (splitL x s.data.toList).map str
theorem splitB_len (s : ByteArray) (x : UInt8) : (splitB s x).length <= s.size + 1 := by
 have := splitL_len x s.data.toList
 rw [size_list] at this
 simpa [splitB] using this
theorem sub_str (s : ByteArray) (i j : Nat) : s.extract i j = str ((s.data.toList.take j).drop i) := bytes_ext (by rw [sub_list, str_list])
theorem at_drop (s : ByteArray) (k : Nat) (h : k < s.size) : s.data.toList.drop k = s[k] :: s.data.toList.drop (k + 1) := by
 have h0 : k < s.data.toList.length := by rw [size_list]; exact h
 exact List.drop_eq_getElem_cons h0
theorem take_drop_snoc (s : ByteArray) (f k : Nat) (hf : f <= k) (h : k < s.size) : (s.data.toList.take (k + 1)).drop f = (s.data.toList.take k).drop f ++ [s[k]] := by
 rw [take_snoc s k h, List.drop_append_of_le_length (by rw [List.length_take, size_list]; omega)]
theorem take_drop_self (s : ByteArray) (k : Nat) : (s.data.toList.take k).drop k = [] := List.drop_eq_nil_of_le (by rw [List.length_take]; omega)

theorem split_any (s : ByteArray) (x : UInt8) (hs : s.size <= 2000000) (w : World) :
  Calls Tryz.prog 68 #[.string s, .int .u8 x.toNat] w fun e w' => ∃ v, e = .returned v /\ w'.ownsRow w.heap.size 9 1 v (splitB s x).length (SS (splitB s x)) /\ Below w.heap.size w w' := by
 go_enter Tryz.func68, Tryz.ntmps68
 go_wp2
 go_loopw [5, 6, 7] (fun v fr i wr => ∃ (k f : Nat) (qs : List (List UInt8)), k <= s.size /\ f <= k /\ qs.length <= k /\ i = .int .i64 k /\ fr = .int .i64 f /\ Hid (splitL x s.data.toList = qs ++ glue ((s.data.toList.take k).drop f) (splitL x (s.data.toList.drop k))) /\ wr.ownsRow w.heap.size 9 1 v qs.length (SS (qs.map str)) /\ Below w.heap.size w wr)
  (fun _ _ i _ => s.size - (intOf i).toNat)
 case atStart => exact ⟨0, 0, [], by omega, by omega, by simp, rfl, rfl, (by simpa using (glue_nil x _).symm : _ = _), World.ownsRow_lit w #[] 0 (Nat.le_refl _) (by unfold maxLen; omega) rfl, belA (bel0 w) _⟩
 case round =>
  obtain ⟨k, f, qs, hk, hf, hq, rfl, rfl, heq, hown, hbel⟩ := hrel
  have hsz := hbel.size
  by_cases hlt : k < s.size
  ·have hb := (s[k]'hlt).toNat_lt
   have hd := Lib.hid (at_drop s k hlt)
   have p0 : (0 : Int) <= ↑f := by omega
   have p1 : (f : Int) <= ↑k := by omega
   have p2 : (k : Int) <= ↑s.size := by omega
   by_cases hx : s[k] = x
   ·have hx' : (((s[k]'hlt).toNat : Int) == (x.toNat : Int)) = true := by rw [hx]; simp
    have Hx := Lib.hid hx
    have hst := sub_str s f k
    clear hx
    go_wp2_with (at_builtin; go_must (refine wpList_app _ rfl _ _ _ rfl Tryz.el_str (hown.alloc _) rfl (reads_new _ _ _ _ 1 (by rfl)) rfl (by simp [Value.oneCell']) (max_small (by omega)) (by omega) (by simp; omega) ?_); intro v1 w1 own1 hg1 _ hb1)
    go_roundw
    case rel =>
     refine ⟨k + 1, k + 1, qs ++ [(s.data.toList.take k).drop f], by omega, by omega, by simp; omega, by go_num, by go_num, ?_, ?_, (hbel.alloc hsz _).trans hb1⟩
     ·show _ = _
      rw [heq.out, hd.out, Hx.out, glue_hit, take_drop_self, glue_nil]; simp
     ·rw [List.map_append, SS_append, List.length_append]; exact own1
    case measure => simp [intOf]; omega
   ·have hx' : (((s[k]'hlt).toNat : Int) == (x.toNat : Int)) = false := by
     rw [beq_eq_false_iff_ne]; intro e; exact hx (UInt8.toNat_inj.1 (by omega))
    have Hx := Lib.hid hx
    clear hx
    go_wp2
    go_roundw
    case rel =>
     refine ⟨k + 1, f, qs, by omega, by omega, by omega, by go_num, rfl, ?_, hown, hbel⟩
     show _ = _
     rw [heq.out, hd.out, glue_miss _ _ Hx.out, take_drop_snoc s f k hf hlt]
    case measure => simp [intOf]; omega
  ·have hst := sub_str s f s.size
   have p0 : (0 : Int) <= ↑f := by omega
   have p2 : (f : Int) <= ↑s.size := by omega
   have Hf := Lib.hid (show splitL x s.data.toList = qs ++ [(s.data.toList.take s.size).drop f] by
    rw [heq.out, show s.data.toList.drop k = [] from List.drop_eq_nil_of_le (by rw [size_list]; omega), glue_end, take_all s k (by omega), take_all s s.size (by omega)])
   go_wp2_with (at_builtin; go_must (refine wpList_app _ rfl _ _ _ rfl Tryz.el_str (hown.alloc _) rfl (reads_new _ _ _ _ 1 (by rfl)) rfl (by simp [Value.oneCell']) (max_small (by omega)) (by omega) (by simp; omega) ?_); intro v1 w1 own1 hg1 _ hb1)
   go_ret
   refine ⟨_, rfl, ?_, (hbel.alloc hsz _).trans hb1⟩
   rw [splitB, Hf.out, List.map_append, SS_append, List.length_append, List.length_map, <- hst]
   exact own1

/-! ### Writing into a row of one's own -/
/-! ### Marks -/
def digL (n : Nat) : List UInt8 := if _h : n = 0 then [] else digL (n / 10) ++ [UInt8.ofNat (48 + n % 10)]
termination_by n
decreasing_by omega
/-- The mark of a number. -/
def markB (k : Int) : ByteArray := if k <= 0 then str [109, 48] else str (109 :: digL k.toNat)
/-- So many marks from a number on. -/
def marks (k : Int) (n : Nat) : List ByteArray := (List.range n).map fun (j : Nat) => markB (k + j)

end Go.Proofs.YtjjniapamdleoaaGreatDoor
