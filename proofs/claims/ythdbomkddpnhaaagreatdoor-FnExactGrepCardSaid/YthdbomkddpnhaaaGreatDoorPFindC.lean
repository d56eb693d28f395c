/- What Find and Grep have alike: what their walks leave, what is sought below a path. -/
import Derived.Test.YthdbomkddpnhaaaGreatDoorPFindP
import Derived.Test.YthdbomkddpnhaaaGreatDoorPCur
import Derived.Test.YthdbomkddpnhaaaGreatDoorPTarV
import Derived.Test.YthdbomkddpnhaaaGreatDoorPListS
import Derived.Test.YthdbomkddpnhaaaGreatDoorPSorts
import Derived.Test.YthdbomkddpnhaaaGreatDoorPVolH
namespace Go.Proofs.YthdbomkddpnhaaaGreatDoor
open Go Go.RowKit

/-- What found leaves. -/
def FPost (w : World) (L : List ByteArray) (e : Ending) (w' : World) : Prop := ∃ v, e = .returned v ∧ v.ownBlock ≠ none ∧ w'.ownsRow w.heap.size 9 1 v L.length (SS L) ∧ Below w.heap.size w w'
theorem blk_or {a b : Option Nat} {k : Nat} (h : b ≠ none) (ho : a = b ∨ a = some k) : a ≠ none := by
 rcases ho with rfl | rfl
 ·exact h
 ·intro h2; cases h2
/-- What l28All leaves: the row grown by insertions. -/
def APost (w : World) (b0 : Nat) (L : List ByteArray) (e : Ending) (w' : World) : Prop := ∃ v, e = .returned v ∧ w'.ownsRow b0 9 1 v L.length (SS L) ∧ Below w.heap.size w w'
theorem foldT_len (l o : List ByteArray) : (l.foldl putT o).length = o.length + l.length := by
 induction l generalizing o with
 | nil => rfl
 | cons s l ih => rw [List.foldl_cons, ih, List.length_cons]; have := (putT_perm o s).length_eq; simp at this; omega
theorem sortS_own {w : World} {base n : Nat} {v : Value} (l : List ByteArray) (h : w.ownsRow base 9 1 v n (SS l)) (hn : v.ownBlock ≠ none) (hn2 : n ≤ 1000000000) :
  Calls Tryz.prog 181 #[v] w fun e w' => e = .returned (.tuple #[]) ∧ w'.ownsRow base 9 1 v n (SS (sortS l)) ∧ w.grownBy w' v.ownBlock := by
 have hl : l.length = n := by have := h.1; unfold SS at this; simpa using this
 subst hl
 rcases h.2 with ⟨rfl, h0⟩ | ⟨g, cap, cur, rfl, hbase, hb, h1, h2, h3, h4⟩
 ·exact absurd rfl hn
 ·have hc := Any.slices_Sort_string Tryz.lays190 g 0 cap (l.map fun s => s.data.toList) w (holds_of_block hb (by rw [List.length_map, ← SS_enc]; simpa using h4)) (Array.getElem?_eq_some_iff.1 hb).1 (by rw [List.length_map]; omega)
  rw [List.length_map] at hc
  refine hc.mono ?_
  rintro e w' ⟨rfl, q, os, rfl⟩
  have ho := ownsRow_sorted (w := w) (n := q) (os := os) (ss := l.map fun s => s.data.toList) (ts := (l.map fun s => s.data.toList).mergeSort fun x y => decide (x ≤ y)) (List.length_mergeSort _) hbase hb (by rw [List.length_map]; exact h1) h2 h3
  rw [List.length_map, ← SS_sort] at ho
  exact ⟨rfl, ho, by rw [show (Value.slice (some ⟨g, 0, none⟩) l.length cap).ownBlock = some g from rfl]; exact grownBy_sorted _⟩
/-- What is sought below a path. -/
noncomputable def soughtW (V : VolD) (s : ByteArray) (ok : Bool) (P : EntD → InoD → Bool) : List ByteArray × Int :=
 if (curP V s).2 = 0 then (if ok = true then (sortS (fndT V.xs P (curP V s).1.d ⟨#[]⟩), 0) else ([], 1)) else ([], (curP V s).2)
theorem sought_bad {V : VolD} {s : ByteArray} {ok : Bool} {P : EntD → InoD → Bool} (h : (curP V s).2 ≠ 0) : soughtW V s ok P = ([], (curP V s).2) := by unfold soughtW; rw [if_neg h]
theorem sought_no {V : VolD} {s : ByteArray} {P : EntD → InoD → Bool} (h : (curP V s).2 = 0) : soughtW V s false P = ([], 1) := by unfold soughtW; rw [if_pos h]; rfl
theorem sought_ok {V : VolD} {s : ByteArray} {P : EntD → InoD → Bool} (h : (curP V s).2 = 0) : soughtW V s true P = (sortS (fndT V.xs P (curP V s).1.d ⟨#[]⟩), 0) := by unfold soughtW; rw [if_pos h]; rfl
theorem soughtW_len {V : VolD} (s : ByteArray) (ok : Bool) (P : EntD → InoD → Bool) : (soughtW V s ok P).1.length ≤ 10000000 := by
 unfold soughtW
 split
 ·rename_i h
  obtain ⟨hv, x, hx, hd, hid⟩ := cur_zero h
  split
  ·rw [sortS_len, ← hid]; exact Nat.le_trans (fndT_len hv P hx hd _) (by omega)
  ·exact Nat.zero_le _
 ·exact Nat.zero_le _

end Go.Proofs.YthdbomkddpnhaaaGreatDoor

