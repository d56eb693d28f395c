/- Changes of a row of entries: the walks of both sides that both of Add and Drop share, and Drop. -/
import Derived.Test.YtjjniapamdleoaaGreatDoorRCBase
import Derived.Laws.CopyRow
import Derived.Laws.CopyOwn
import Derived.Lib.Overlaps
import Derived.Lib.AppendZerosOnto
import Derived.Test.YtjjniapamdleoaaGreatDoorRCStrs
import Derived.Deep.RegionLaw
import Derived.Laws.Externs
import Derived.Test.YtjjniapamdleoaaGreatDoorRCIsPg
import Derived.Test.YtjjniapamdleoaaGreatDoorRCCpE
import Derived.Test.YtjjniapamdleoaaGreatDoorRCDoP
namespace Go.Proofs.YtjjniapamdleoaaGreatDoor
open Go Go.RowKit
set_option maxHeartbeats 4000000
set_option maxRecDepth 100000

section
variable {w : World} {base g n c size : Nat} {e : TypeId} {xs : List Value}
theorem own_heap (h : w.ownsRow base e size (.slice (some ⟨g, 0, none⟩) n c) n xs) : ∃ cur : Array Value, base <= g /\ w.heap[g]? = some (.cells cur e (0, 0)) /\ n <= c /\ c <= maxLen /\ cur.size = c * size /\ cur.toList.take (n * size) = xs := by
 obtain ⟨_, h | ⟨g', cap, cur, hv, hb, hh, h1, h2, h3, h4⟩⟩ := h
 ·obtain ⟨h, _⟩ := h; cases h
 ·simp only [Value.slice.injEq, Option.some.injEq, Addr.mk.injEq, and_true, true_and] at hv
  obtain ⟨rfl, rfl⟩ := hv
  exact ⟨cur, hb, hh, h1, h2, h3, h4⟩
theorem own_of_heap {cur : Array Value} (hb : base <= g) (hh : w.heap[g]? = some (.cells cur e (0, 0))) (h1 : n <= c) (h2 : c <= maxLen) (h3 : cur.size = c * size) (h4 : cur.toList.take (n * size) = xs) : w.ownsRow base e size (.slice (some ⟨g, 0, none⟩) n c) n xs := by
 refine ⟨?_, .inr ⟨g, c, cur, rfl, hb, hh, h1, h2, h3, h4⟩⟩
 rw [<- h4, List.length_take, Array.length_toList, h3]
 exact Nat.min_eq_left (Nat.mul_le_mul_right _ h1)
theorem own_cut (h : w.ownsRow base e size (.slice (some ⟨g, 0, none⟩) n c) n xs) (m : Nat) (hm : m <= n) : w.ownsRow base e size (.slice (some ⟨g, 0, none⟩) m c) m (xs.take (m * size)) := by
 obtain ⟨cur, hb, hh, h1, h2, h3, h4⟩ := own_heap h
 refine own_of_heap hb hh (by omega) h2 h3 ?_
 have hl : m * size <= n * size := Nat.mul_le_mul_right _ hm
 rw [<- h4, List.take_take, Nat.min_eq_left hl]
end

section
variable {P : Program}
end

theorem ES_take : ∀ (l : List EntD) (k : Nat), (ES l).take (k * 4) = ES (l.take k)
 | [], k => by simp [ES]
 | e :: l, 0 => by simp [ES]
 | e :: l, k + 1 => by
  rw [ES_cons, show (k + 1) * 4 = k * 4 + 1 + 1 + 1 + 1 by omega, List.take_succ_cons, List.take_succ_cons, List.take_succ_cons, List.take_succ_cons, ES_take l k, List.take_succ_cons, ES_cons]
theorem ES_drop : ∀ (l : List EntD) (k : Nat), (ES l).drop (k * 4) = ES (l.drop k)
 | [], k => by simp [ES]
 | e :: l, 0 => by simp
 | e :: l, k + 1 => by
  rw [ES_cons, show (k + 1) * 4 = k * 4 + 1 + 1 + 1 + 1 by omega, List.drop_succ_cons, List.drop_succ_cons, List.drop_succ_cons, List.drop_succ_cons, ES_drop l k, List.drop_succ_cons]
theorem own_src {w : World} {base size g n c : Nat} {e : TypeId} {xs : List Value} (h : w.ownsRow base e size (.slice (some ⟨g, 0, none⟩) n c) n xs) (o : Nat) : ∀ j v, (xs.drop o)[j]? = some v -> w.cell? ((⟨g, o, none⟩ : Addr).add j) = some v := fun j v hv => by
 have ha : (⟨g, o, none⟩ : Addr).add j = ⟨g, o + j, none⟩ := by unfold Addr.add; split <;> simp_all
 rw [List.getElem?_drop] at hv
 have hlt := (List.getElem?_eq_some_iff.1 hv).1
 rw [ha, h.cellAt (o + j) (by have := h.1; omega), hv]

theorem own_reads {w : World} {b : Nat} {e : TypeId} {s n c : Nat} {A : Option Addr} {xs : List Value} (h : w.ownsRow b e s (.slice A n c) n xs) : Reads w w.heap.size s A n xs := by
 obtain ⟨A', c', he, _, _, h⟩ := own_vals h
 simp only [Value.slice.injEq] at he
 obtain ⟨rfl, _, _⟩ := he
 exact h

/-- The same, the row's base named. -/
def ChgAt (base : Nat) (P : List EntD × Bool) (e : Ending) (w' : World) : Prop :=
 ∃ L b v n, P = (L, b) /\ L.length = n /\ e = .returned (.tuple #[v, .bool b]) /\ w'.ownsRow base 38 4 v n (ES L)
theorem chgAt_end {base : Nat} {w' : World} {P : List EntD × Bool} {L : List EntD} {b : Bool} {n : Nat} {v u : Value} (h : P = (L, b)) (hv : v = .tuple #[u, .bool b]) (hn : L.length = n) (ho : w'.ownsRow base 38 4 u n (ES L)) : ChgAt base P (.returned v) w' := ⟨L, b, u, n, h, hn, by rw [hv], ho⟩
/-- What is behind an entry of a row of one's own, to read. -/
theorem own_tail {w : World} {base g n c k : Nat} {ds : List EntD} (h : w.ownsRow base 38 4 (.slice (some ⟨g, 0, none⟩) n c) n (ES ds)) (hk : k < n) :
  ∃ A : Addr, (if c = k + 1 then (some ⟨g, 0, none⟩ : Option Addr) else some ⟨g, (k + 1) * 4, none⟩) = some A /\ Reads w w.heap.size 4 (some A) (n - (k + 1)) (ES (ds.drop (k + 1))) := by
 obtain ⟨cur, hb, hh, c1, c2, c3, c4⟩ := own_heap h
 have hg := (Array.getElem?_eq_some_iff.1 hh).1
 have hl : (ES (ds.drop (k + 1))).length = (n - (k + 1)) * 4 := by have := h.1; rw [ES_length] at this ⊢; rw [List.length_drop]; omega
 by_cases hc : c = k + 1
 ·exact ⟨⟨g, 0, none⟩, by rw [if_pos hc], hl, fun hp => by omega⟩
 ·exact ⟨⟨g, (k + 1) * 4, none⟩, by rw [if_neg hc], hl, fun _ => ⟨_, rfl, hg, fun j u hu => own_src h ((k + 1) * 4) j u (by rw [ES_drop]; exact hu)⟩⟩
theorem own_head {w : World} {base g n c k : Nat} {ds : List EntD} (h : w.ownsRow base 38 4 (.slice (some ⟨g, 0, none⟩) n c) n (ES ds)) (hk : k <= n) : Reads w w.heap.size 4 (some ⟨g, 0, none⟩) k (ES (ds.take k)) := by
 have h1 := own_cut h k hk
 rw [ES_take] at h1
 obtain ⟨A, c', he, _, _, hr⟩ := own_vals h1
 simp only [Value.slice.injEq] at he
 obtain ⟨rfl, _, _⟩ := he
 exact hr

theorem l5Drop_any (base n : Nat) (v : Value) (ds : List EntD) (hok : dirOkB ds = true) (hz : ∀ e ∈ ds, e.s.size <= 2000000) (s : ByteArray) (hs : s.size <= 2000000) (w : World) (hbase : base <= w.heap.size) (hown : w.ownsRow base 38 4 v n (ES ds)) :
  Calls Tryz.prog 179 #[v, .string s] w fun e w' => ChgAt base (dropP ds s) e w' /\ Below w.heap.size w w' := by
 have hl : ds.length = n := by have := hown.1; rw [ES_length] at this; omega
 have h12 : n <= 12 := by have := dir12 hok; omega
 obtain ⟨A, c, rfl, hc1, hc2, hr⟩ := own_vals hown
 unfold maxLen at hc2
 have Hr := Lib.hid hr
 have HL := Lib.hid hl
 have Hok := Lib.hid hok
 have Own := Lib.hid hown
 clear hr hl hok hown
 go_enter Tryz.func179, Tryz.ntmps179
 go_wp2_with fail
 refine (l5At_any A n c ds hz (by omega) s hs _ Hr.out).mono ?_
 rintro e w1 ⟨r, rfl, hix, hb1⟩
 have Own1 := Lib.hid (own_below Own.out hb1 (Nat.le_refl _))
 clear Own
 rcases hix with ⟨rfl, hf⟩ | ⟨k, hk, rfl, hf⟩
 ·have Hf := Lib.hid (dropP_no Hok.out hf)
  clear hf
  go_wp2
  refine bodyPost_ret (v := .tuple #[.slice A n c, .bool false]) (by simp [results, Tryz.results179, go_sem]) rfl ⟨chgAt_end Hf.out rfl HL.out Own1.out, hb1⟩
 ·have Hf := Lib.hid (dropP_yes Hok.out hk hf)
  have hkn : k < n := by have := HL.out; omega
  have q0 : ¬ ((k : Int) < 0) := by omega
  obtain ⟨g, c', he⟩ := own_form1 Own1.out (by omega)
  simp only [Value.slice.injEq] at he
  obtain ⟨rfl, _, rfl⟩ := he
  obtain ⟨A2, hA2, hrt⟩ := own_tail Own1.out hkn
  have hrh := own_head Own1.out (show k <= n by omega)
  have Hrt := Lib.hid hrt
  have Hrh := Lib.hid hrh
  have hlit := Lib.hid (World.ownsRow_lit (e := 38) (size := 4) w1 #[] 0 (Nat.le_refl _) (by unfold maxLen; omega) rfl)
  have q1 : (0 : Int) <= (k : Int) := by omega
  have q2 : k <= c := by omega
  have q3 : (k : Int) <= (c : Int) := by omega
  have q4 : (0 : Int) <= (k : Int) + 1 := by omega
  have q5 : (k : Int) + 1 <= (n : Int) := by omega
  have q6 : ((k : Int) + 1).toNat = k + 1 := by omega
  have q7 : IntKind.i64.wrap ((k : Int) + 1) = (k : Int) + 1 := by rw [IntKind.wrap_i64]; omega
  have q8 : k + 1 <= n := by omega
  clear hf hrt hrh
  go_wp2_with (first
   | (at_builtin; refine wpList_app _ rfl _ _ _ rfl Tryz.el_ent hlit.out rfl ((Hrh.out.below (belA (bel0 w1) _)).more (Nat.le_succ _)) rfl (ES_cells _) (by unfold maxLen; omega) (by omega) (by simp) ?_; intro v2 w2 own2 _ _ hb2; rw [Nat.zero_add] at own2; have Own2 := Lib.hid own2; have B2 := Lib.hid ((belA (bel0 w1) (.cells #[] 38)).trans hb2); clear own2 hb2)
   | (at_builtin; refine wpList_app _ rfl _ _ _ rfl Tryz.el_ent Own2.out rfl ((Hrt.out.below B2.out).more B2.out.size) rfl (ES_cells _) (by unfold maxLen; omega) (by omega) (B2.out.size) ?_; intro v3 w3 own3 _ _ hb3; have Own3 := Lib.hid own3; have B3 := Lib.hid (B2.out.trans hb3); clear own3 hb3))
  have h3 := Own3.out
  rw [show ([] : List Value) ++ ES (ds.take k) = ES (ds.take k) from rfl, <- ES_append] at h3
  refine bodyPost_ret (v := .tuple #[v3, .bool true]) (by simp [results, Tryz.results179, go_sem]) rfl ⟨chgAt_end Hf.out rfl (by have := HL.out; simp; omega) (own_more h3 (Nat.le_trans hbase hb1.size)), belN hb1 B3.out⟩

end Go.Proofs.YtjjniapamdleoaaGreatDoor
