/- Changes of a row of entries: the walks of both sides that both of Add and Drop share, and Drop. -/
import Derived.Test.YtjjniapamdleoaaGreatDoorRSVolQ2
import Derived.Test.YtjjniapamdleoaaGreatDoorRSCpV
import Derived.Test.YtjjniapamdleoaaGreatDoorRSBase
import Derived.Laws.CopyRow
import Derived.Laws.CopyOwn
import Derived.Lib.Overlaps
import Derived.Lib.AppendZerosOnto
import Derived.Test.YtjjniapamdleoaaGreatDoorRSStrs
import Derived.Deep.RegionLaw
import Derived.Laws.Externs
import Derived.Test.YtjjniapamdleoaaGreatDoorRSIsPg
import Derived.Test.YtjjniapamdleoaaGreatDoorRSCpE
import Derived.Test.YtjjniapamdleoaaGreatDoorRSDoP
namespace Go.Proofs.YtjjniapamdleoaaGreatDoor
open Go Go.RowKit
set_option maxHeartbeats 4000000
set_option maxRecDepth 100000

theorem IC_set4 : ∀ {xs : List InoD} {vs : List Value} {k : Nat} (_ : k < xs.length) (_ : vs.length = xs.length) (es : List EntD) (u : Value), (IC xs vs).set (k * 5 + 4) u = IC (ptE xs k es) (vs.set k u)
 | x :: xs, v :: vs, 0, _, _, es, u => rfl
 | x :: xs, v :: vs, k + 1, hk, hl, es, u => by
  have ih := IC_set4 (xs := xs) (vs := vs) (k := k) (by simpa using hk) (by simpa using hl) es u
  have hp : ptE (x :: xs) (k + 1) es = x :: ptE xs k es := by rw [putE_at (by simpa using hk), putE_at (by simpa using hk)]; rfl
  rw [hp, show (k + 1) * 5 + 4 = k * 5 + 4 + 1 + 1 + 1 + 1 + 1 by omega]
  simp only [IC, List.set_cons_succ]
  rw [ih]
theorem IC_set2 : ∀ {xs : List InoD} {vs : List Value} {k : Nat} (_ : k < xs.length) (_ : vs.length = xs.length) (ln : Int), (IC xs vs).set (k * 5 + 2) (.int .i64 ln) = IC (ptL xs k ln) vs
 | x :: xs, v :: vs, 0, _, _, ln => rfl
 | x :: xs, v :: vs, k + 1, hk, hl, ln => by
  have ih := IC_set2 (xs := xs) (vs := vs) (k := k) (by simpa using hk) (by simpa using hl) ln
  have hp : ptL (x :: xs) (k + 1) ln = x :: ptL xs k ln := by rw [putL_at (by simpa using hk), putL_at (by simpa using hk)]; rfl
  rw [hp, show (k + 1) * 5 + 2 = k * 5 + 2 + 1 + 1 + 1 + 1 + 1 by omega]
  simp only [IC, List.set_cons_succ]
  rw [ih]
theorem IC_set3 : ∀ {xs : List InoD} {vs : List Value} {k : Nat} (_ : k < xs.length) (_ : vs.length = xs.length) (s : ByteArray), (IC xs vs).set (k * 5 + 3) (.string s) = IC (ptS xs k s) vs
 | x :: xs, v :: vs, 0, _, _, s => rfl
 | x :: xs, v :: vs, k + 1, hk, hl, s => by
  have ih := IC_set3 (xs := xs) (vs := vs) (k := k) (by simpa using hk) (by simpa using hl) s
  have hp : ptS (x :: xs) (k + 1) s = x :: ptS xs k s := by rw [putS_at (by simpa using hk), putS_at (by simpa using hk)]; rfl
  rw [hp, show (k + 1) * 5 + 3 = k * 5 + 3 + 1 + 1 + 1 + 1 + 1 by omega]
  simp only [IC, List.set_cons_succ]
  rw [ih]
/-- The rows of entries of inodes, save one. -/
def OwnX (w : World) (lo : Nat) (xs : List InoD) (vs : List Value) (k : Nat) : Prop :=
 vs.length = xs.length /\ ∀ (i : Nat) (hi : i < xs.length), i ≠ k -> ∃ v, vs[i]? = some v /\ w.ownsRow lo 38 4 v xs[i].es.length (ES xs[i].es)
/-- No two rows lie in one block. -/
def DisV (vs : List Value) : Prop := vs.Pairwise fun u v => ∀ k, u.ownBlock = some k -> v.ownBlock ≠ some k
/-- A volume's inodes in memory of one's own: the row's block g (room c), the rows of entries. -/
def YR (w : World) (lo g c : Nat) (xs : List InoD) (vs : List Value) : Prop :=
 w.ownsRow lo 36 5 (.slice (some ⟨g, 0, none⟩) xs.length c) xs.length (IC xs vs) /\ OwnV w lo xs vs
section
variable {w w' : World} {lo g c k : Nat} {xs : List InoD} {vs : List Value} {es : List EntD} {ve : Value}
theorem OwnV.x (h : OwnV w lo xs vs) (k : Nat) : OwnX w lo xs vs k := ⟨h.1, fun i hi _ => h.2 i hi⟩
theorem OwnX.below (h : OwnX w lo xs vs k) (hb : Below w.heap.size w w') : OwnX w' lo xs vs k :=
 ⟨h.1, fun i hi hne => by obtain ⟨v, h1, h2⟩ := h.2 i hi hne; exact ⟨v, h1, own_below h2 hb (Nat.le_refl _)⟩⟩
theorem YR.below (h : YR w lo g c xs vs) (hb : Below w.heap.size w w') : YR w' lo g c xs vs := ⟨own_below h.1 hb (Nat.le_refl _), h.2.below hb⟩
theorem OwnV.more (h : OwnV w lo xs vs) {lo' : Nat} (hl : lo' <= lo) : OwnV w lo' xs vs := ⟨h.1, fun i hi => by obtain ⟨v, h1, h2⟩ := h.2 i hi; exact ⟨v, h1, own_more h2 hl⟩⟩
theorem YR.more (h : YR w lo g c xs vs) {lo' : Nat} (hl : lo' <= lo) : YR w lo' g c xs vs := ⟨own_more h.1 hl, h.2.more hl⟩
theorem YR.isC (h : YR w lo g c xs vs) (nx : Int) : IsVolC w (.agg #[.int .i64 nx, .slice (some ⟨g, 0, none⟩) xs.length c]) ⟨nx, xs⟩ := h.2.vol nx rfl h.1
theorem YR.hi (h : YR w lo g c xs vs) : lo <= g /\ g < w.heap.size := h.1.lt g rfl
theorem YR.at_ (h : YR w lo g c xs vs) (hk : k < xs.length) : ∃ v, vs[k]? = some v /\ w.ownsRow lo 38 4 v xs[k].es.length (ES xs[k].es) /\ w.cell? ⟨g, k * 5, none⟩ = some (.int .i64 xs[k].id) /\ w.cell? ⟨g, k * 5 + 1, none⟩ = some (.int .i64 xs[k].kd) /\
  w.cell? ⟨g, k * 5 + 2, none⟩ = some (.int .i64 xs[k].ln) /\ w.cell? ⟨g, k * 5 + 3, none⟩ = some (.string xs[k].s) /\ w.cell? ⟨g, k * 5 + 4, none⟩ = some v := by
 obtain ⟨v, h1, h2⟩ := h.2.2 k hk
 obtain ⟨g0, g1, g2, g3, g4⟩ := IC_get xs vs k hk v h1
 have hl := IC_length xs vs h.2.1
 have z : ∀ j u, (IC xs vs)[j]? = some u -> j < xs.length * 5 -> w.cell? ⟨g, j, none⟩ = some u := fun j u hu hj => by rw [h.1.cellAt j hj]; exact hu
 exact ⟨v, h1, h2, z _ _ g0 (by omega), z _ _ g1 (by omega), z _ _ g2 (by omega), z _ _ g3 (by omega), z _ _ g4 (by omega)⟩
theorem YR.frozen (h : YR w lo g c xs vs) (j : Nat) : w.frozen? ⟨g, j, none⟩ = false := own_frozen h.1 j
theorem OwnX.set_ {b n : Nat} {ys : List Value} (h : OwnX w lo xs vs k) (hv : w.ownsRow b 36 5 (.slice (some ⟨g, 0, none⟩) n c) n ys) (j : Nat) (u : Value) : OwnX (w.setCell ⟨g, j, none⟩ u) lo xs vs k :=
 ⟨h.1, fun i hi hne => by
  obtain ⟨v, h1, h2⟩ := h.2 i hi hne
  exact ⟨v, h1, h2.kept (only_setCell (p := ⟨g, j, none⟩) (grown_refl w (some g)) (.inl rfl) u) (own_ne2 h2 hv (by decide))⟩⟩
/-- An inode's row of entries is put in. -/
theorem YR.putE (hI : w.ownsRow lo 36 5 (.slice (some ⟨g, 0, none⟩) xs.length c) xs.length (IC xs vs)) (hX : OwnX w lo xs vs k) (hk : k < xs.length) (hv : w.ownsRow lo 38 4 ve es.length (ES es)) :
  YR (w.setCell ⟨g, k * 5 + 4, none⟩ ve) lo g c (ptE xs k es) (vs.set k ve) := by
 have hl := hX.1
 refine ⟨?_, by rw [putE_len, List.length_set]; exact hl, fun i hi => ?_⟩
 ·have h := own_set hI (k * 5 + 4) ve
  rw [IC_set4 hk hl es ve] at h
  rw [putE_len]
  exact h
 ·have hi' : i < xs.length := by rw [putE_len] at hi; exact hi
  have hv2 : (w.setCell ⟨g, k * 5 + 4, none⟩ ve).ownsRow lo 38 4 ve es.length (ES es) := hv.kept (only_setCell (p := ⟨g, k * 5 + 4, none⟩) (grown_refl w (some g)) (.inl rfl) ve) (own_ne2 hv hI (by decide))
  by_cases hik : i = k
  ·subst hik
   refine ⟨ve, by rw [List.getElem?_set_self (by omega)], ?_⟩
   rw [putE_same hk hi]
   exact hv2
  ·obtain ⟨u, h1, h2⟩ := (hX.set_ hI (k * 5 + 4) ve).2 i hi' hik
   refine ⟨u, by rw [List.getElem?_set_ne (Ne.symm hik)]; exact h1, ?_⟩
   rw [putE_ne hk hik hi]
   exact h2
theorem OwnV.esame {ys : List InoD} (h : OwnV w lo xs vs) (he : ys.map (·.es) = xs.map (·.es)) : OwnV w lo ys vs := by
 have hl : ys.length = xs.length := by simpa using congrArg List.length he
 refine ⟨h.1.trans hl.symm, fun i hi => ?_⟩
 have hx : ys[i].es = (xs[i]'(by omega)).es := by
  have h1 : (ys.map (·.es))[i]? = (xs.map (·.es))[i]? := by rw [he]
  rw [List.getElem?_map, List.getElem?_map, List.getElem?_eq_getElem hi, List.getElem?_eq_getElem (by omega)] at h1
  exact Option.some.inj h1
 rw [hx]
 exact h.2 i (by omega)
theorem es_set {y : InoD} (hk : k < xs.length) (hy : y.es = xs[k].es) : (xs.set k y).map (·.es) = xs.map (·.es) := by
 rw [List.map_set, hy]
 have : xs[k].es = (xs.map (·.es))[k]'(by simpa using hk) := by simp
 rw [this, List.set_getElem_self]
/-- An inode's links are put in. -/
theorem YR.putL (h : YR w lo g c xs vs) (hk : k < xs.length) (ln : Int) : YR (w.setCell ⟨g, k * 5 + 2, none⟩ (.int .i64 ln)) lo g c (ptL xs k ln) vs := by
 refine ⟨?_, OwnV.esame (xs := xs) ⟨h.2.1, fun i hi => ?_⟩ (by rw [putL_at hk]; exact es_set hk rfl)⟩
 ·have h2 := own_set h.1 (k * 5 + 2) (.int .i64 ln)
  rw [IC_set2 hk h.2.1 ln] at h2
  rw [putL_len]
  exact h2
 ·obtain ⟨v, h1, h2⟩ := h.2.2 i hi
  exact ⟨v, h1, h2.kept (only_setCell (p := ⟨g, k * 5 + 2, none⟩) (grown_refl w (some g)) (.inl rfl) _) (own_ne2 h2 h.1 (by decide))⟩
/-- An inode's data is put in. -/
theorem YR.putS (h : YR w lo g c xs vs) (hk : k < xs.length) (s : ByteArray) : YR (w.setCell ⟨g, k * 5 + 3, none⟩ (.string s)) lo g c (ptS xs k s) vs := by
 refine ⟨?_, OwnV.esame (xs := xs) ⟨h.2.1, fun i hi => ?_⟩ (by rw [putS_at hk]; exact es_set hk rfl)⟩
 ·have h2 := own_set h.1 (k * 5 + 3) (.string s)
  rw [IC_set3 hk h.2.1 s] at h2
  rw [putS_len]
  exact h2
 ·obtain ⟨v, h1, h2⟩ := h.2.2 i hi
  exact ⟨v, h1, h2.kept (only_setCell (p := ⟨g, k * 5 + 3, none⟩) (grown_refl w (some g)) (.inl rfl) _) (own_ne2 h2 h.1 (by decide))⟩
theorem DisV.snoc (h : DisV vs) (hr : OwnV w lo xs vs) {b n : Nat} {e : TypeId} {size : Nat} {ys : List Value} {w1 : World} (hv : w1.ownsRow b e size ve n ys) (hb : w.heap.size <= b) : DisV (vs ++ [ve]) := by
 unfold DisV
 rw [List.pairwise_append]
 refine ⟨h, List.pairwise_singleton _ _, fun u hu v hv2 k h1 h2 => ?_⟩
 rw [List.mem_singleton.1 hv2] at h2
 obtain ⟨i, hi, rfl⟩ := List.getElem_of_mem hu
 obtain ⟨u', h3, h4⟩ := hr.2 i (by rw [<- hr.1]; exact hi)
 rw [List.getElem?_eq_getElem hi] at h3
 have h5 := Option.some.inj h3
 subst h5
 have h6 := (h4.lt k h1).2
 have h7 := (hv.lt k h2).1
 omega
/-- A row of entries is written in place: the others stay. -/
theorem YR.inPlace (h : YR w lo g c xs vs) (hd : DisV vs) (hk : k < xs.length) {v : Value} (hv : vs[k]? = some v) (hg : w.grownBy w' v.ownBlock) : w'.ownsRow lo 36 5 (.slice (some ⟨g, 0, none⟩) xs.length c) xs.length (IC xs vs) /\ OwnX w' lo xs vs k := by
 obtain ⟨v', h1, h2⟩ := h.2.2 k hk
 rw [hv] at h1
 have h3 := Option.some.inj h1
 subst h3
 refine ⟨h.1.kept hg (own_ne2 h.1 h2 (by decide)), h.2.1, fun i hi hne => ?_⟩
 obtain ⟨u, h4, h5⟩ := h.2.2 i hi
 refine ⟨u, h4, h5.kept hg ?_⟩
 rcases hb : u.ownBlock with _ | q
 ·exact .inl rfl
 ·refine .inr fun he => ?_
  have hil : i < vs.length := by rw [h.2.1]; exact hi
  have hkl : k < vs.length := by rw [h.2.1]; exact hk
  have hu : vs[i] = u := by rw [List.getElem?_eq_getElem hil] at h4; exact Option.some.inj h4
  have hvk : vs[k] = v := by rw [List.getElem?_eq_getElem hkl] at hv; exact Option.some.inj hv
  have hp := List.pairwise_iff_getElem.1 hd
  rcases Nat.lt_or_gt_of_ne hne with hl | hl
  ·have := hp i k hil hkl hl q (by rw [hu]; exact hb)
   rw [hvk] at this
   exact this he.symm
  ·have := hp k i hkl hil hl q (by rw [hvk]; exact he.symm)
   rw [hu] at this
   exact this hb
end

section
variable {w : World} {base g n c size : Nat} {e : TypeId} {xs : List Value}
theorem own_heap (h : w.ownsRow base e size (.slice (some ⟨g, 0, none⟩) n c) n xs) : ∃ cur : Array Value, base <= g /\ w.heap[g]? = some (.cells cur e (0, 0)) /\ n <= c /\ c <= maxLen /\ cur.size = c * size /\ cur.toList.take (n * size) = xs := by
 obtain ⟨_, h | ⟨g', cap, cur, hv, hb, hh, h1, h2, h3, h4⟩⟩ := h
 ·obtain ⟨h, _⟩ := h; cases h
 ·simp only [Value.slice.injEq, Option.some.injEq, Addr.mk.injEq, and_true, true_and] at hv
  obtain ⟨rfl, rfl⟩ := hv
  exact ⟨cur, hb, hh, h1, h2, h3, h4⟩
theorem own_of_heap {cur : Array Value} (hb : base <= g) (hh : w.heap[g]? = some (.cells cur e (0, 0))) (h1 : n <= c) (h2 : c <= maxLen) (h3 : cur.size = c * size) (h4 : cur.toList.take (n * size) = xs) : w.ownsRow base e size (.slice (some ⟨g, 0, none⟩) n c) n xs := by
 refine ⟨?_, .inr ⟨g, c, cur, rfl, hb, hh, h1, h2, h3, h4⟩⟩
 rw [<- h4, List.length_take, Array.length_toList, h3]
 exact Nat.min_eq_left (Nat.mul_le_mul_right _ h1)
theorem own_cut (h : w.ownsRow base e size (.slice (some ⟨g, 0, none⟩) n c) n xs) (m : Nat) (hm : m <= n) : w.ownsRow base e size (.slice (some ⟨g, 0, none⟩) m c) m (xs.take (m * size)) := by
 obtain ⟨cur, hb, hh, h1, h2, h3, h4⟩ := own_heap h
 refine own_of_heap hb hh (by omega) h2 h3 ?_
 have hl : m * size <= n * size := Nat.mul_le_mul_right _ hm
 rw [<- h4, List.take_take, Nat.min_eq_left hl]
end

section
variable {P : Program}
end

theorem ES_take : ∀ (l : List EntD) (k : Nat), (ES l).take (k * 4) = ES (l.take k)
 | [], k => by simp [ES]
 | e :: l, 0 => by simp [ES]
 | e :: l, k + 1 => by
  rw [ES_cons, show (k + 1) * 4 = k * 4 + 1 + 1 + 1 + 1 by omega, List.take_succ_cons, List.take_succ_cons, List.take_succ_cons, List.take_succ_cons, ES_take l k, List.take_succ_cons, ES_cons]
theorem ES_drop : ∀ (l : List EntD) (k : Nat), (ES l).drop (k * 4) = ES (l.drop k)
 | [], k => by simp [ES]
 | e :: l, 0 => by simp
 | e :: l, k + 1 => by
  rw [ES_cons, show (k + 1) * 4 = k * 4 + 1 + 1 + 1 + 1 by omega, List.drop_succ_cons, List.drop_succ_cons, List.drop_succ_cons, List.drop_succ_cons, ES_drop l k, List.drop_succ_cons]
theorem own_src {w : World} {base size g n c : Nat} {e : TypeId} {xs : List Value} (h : w.ownsRow base e size (.slice (some ⟨g, 0, none⟩) n c) n xs) (o : Nat) : ∀ j v, (xs.drop o)[j]? = some v -> w.cell? ((⟨g, o, none⟩ : Addr).add j) = some v := fun j v hv => by
 have ha : (⟨g, o, none⟩ : Addr).add j = ⟨g, o + j, none⟩ := by unfold Addr.add; split <;> simp_all
 rw [List.getElem?_drop] at hv
 have hlt := (List.getElem?_eq_some_iff.1 hv).1
 rw [ha, h.cellAt (o + j) (by have := h.1; omega), hv]

theorem own_reads {w : World} {b : Nat} {e : TypeId} {s n c : Nat} {A : Option Addr} {xs : List Value} (h : w.ownsRow b e s (.slice A n c) n xs) : Reads w w.heap.size s A n xs := by
 obtain ⟨A', c', he, _, _, h⟩ := own_vals h
 simp only [Value.slice.injEq] at he
 obtain ⟨rfl, _, _⟩ := he
 exact h

/-- The same, the row's base named. -/
def ChgAt (base : Nat) (P : List EntD × Bool) (e : Ending) (w' : World) : Prop :=
 ∃ L b v n, P = (L, b) /\ L.length = n /\ e = .returned (.tuple #[v, .bool b]) /\ w'.ownsRow base 38 4 v n (ES L)
theorem chgAt_end {base : Nat} {w' : World} {P : List EntD × Bool} {L : List EntD} {b : Bool} {n : Nat} {v u : Value} (h : P = (L, b)) (hv : v = .tuple #[u, .bool b]) (hn : L.length = n) (ho : w'.ownsRow base 38 4 u n (ES L)) : ChgAt base P (.returned v) w' := ⟨L, b, u, n, h, hn, by rw [hv], ho⟩
/-- What is behind an entry of a row of one's own, to read. -/
theorem own_tail {w : World} {base g n c k : Nat} {ds : List EntD} (h : w.ownsRow base 38 4 (.slice (some ⟨g, 0, none⟩) n c) n (ES ds)) (hk : k < n) :
  ∃ A : Addr, (if c = k + 1 then (some ⟨g, 0, none⟩ : Option Addr) else some ⟨g, (k + 1) * 4, none⟩) = some A /\ Reads w w.heap.size 4 (some A) (n - (k + 1)) (ES (ds.drop (k + 1))) := by
 obtain ⟨cur, hb, hh, c1, c2, c3, c4⟩ := own_heap h
 have hg := (Array.getElem?_eq_some_iff.1 hh).1
 have hl : (ES (ds.drop (k + 1))).length = (n - (k + 1)) * 4 := by have := h.1; rw [ES_length] at this ⊢; rw [List.length_drop]; omega
 by_cases hc : c = k + 1
 ·exact ⟨⟨g, 0, none⟩, by rw [if_pos hc], hl, fun hp => by omega⟩
 ·exact ⟨⟨g, (k + 1) * 4, none⟩, by rw [if_neg hc], hl, fun _ => ⟨_, rfl, hg, fun j u hu => own_src h ((k + 1) * 4) j u (by rw [ES_drop]; exact hu)⟩⟩
theorem own_head {w : World} {base g n c k : Nat} {ds : List EntD} (h : w.ownsRow base 38 4 (.slice (some ⟨g, 0, none⟩) n c) n (ES ds)) (hk : k <= n) : Reads w w.heap.size 4 (some ⟨g, 0, none⟩) k (ES (ds.take k)) := by
 have h1 := own_cut h k hk
 rw [ES_take] at h1
 obtain ⟨A, c', he, _, _, hr⟩ := own_vals h1
 simp only [Value.slice.injEq] at he
 obtain ⟨rfl, _, _⟩ := he
 exact hr

theorem l5Drop_any (base n : Nat) (v : Value) (ds : List EntD) (hok : dirOkB ds = true) (hz : ∀ e ∈ ds, e.s.size <= 2000000) (s : ByteArray) (hs : s.size <= 2000000) (w : World) (hbase : base <= w.heap.size) (hown : w.ownsRow base 38 4 v n (ES ds)) :
  Calls Tryz.prog 179 #[v, .string s] w fun e w' => ChgAt base (dropP ds s) e w' /\ Below w.heap.size w w' := by
 have hl : ds.length = n := by have := hown.1; rw [ES_length] at this; omega
 have h12 : n <= 12 := by have := dir12 hok; omega
 obtain ⟨A, c, rfl, hc1, hc2, hr⟩ := own_vals hown
 unfold maxLen at hc2
 have Hr := Lib.hid hr
 have HL := Lib.hid hl
 have Hok := Lib.hid hok
 have Own := Lib.hid hown
 clear hr hl hok hown
 go_enter Tryz.func179, Tryz.ntmps179
 go_wp2_with fail
 refine (l5At_any A n c ds hz (by omega) s hs _ Hr.out).mono ?_
 rintro e w1 ⟨r, rfl, hix, hb1⟩
 have Own1 := Lib.hid (own_below Own.out hb1 (Nat.le_refl _))
 clear Own
 rcases hix with ⟨rfl, hf⟩ | ⟨k, hk, rfl, hf⟩
 ·have Hf := Lib.hid (dropP_no Hok.out hf)
  clear hf
  go_wp2
  refine bodyPost_ret (v := .tuple #[.slice A n c, .bool false]) (by simp [results, Tryz.results179, go_sem]) rfl ⟨chgAt_end Hf.out rfl HL.out Own1.out, hb1⟩
 ·have Hf := Lib.hid (dropP_yes Hok.out hk hf)
  have hkn : k < n := by have := HL.out; omega
  have q0 : ¬ ((k : Int) < 0) := by omega
  obtain ⟨g, c', he⟩ := own_form1 Own1.out (by omega)
  simp only [Value.slice.injEq] at he
  obtain ⟨rfl, _, rfl⟩ := he
  obtain ⟨A2, hA2, hrt⟩ := own_tail Own1.out hkn
  have hrh := own_head Own1.out (show k <= n by omega)
  have Hrt := Lib.hid hrt
  have Hrh := Lib.hid hrh
  have hlit := Lib.hid (World.ownsRow_lit (e := 38) (size := 4) w1 #[] 0 (Nat.le_refl _) (by unfold maxLen; omega) rfl)
  have q1 : (0 : Int) <= (k : Int) := by omega
  have q2 : k <= c := by omega
  have q3 : (k : Int) <= (c : Int) := by omega
  have q4 : (0 : Int) <= (k : Int) + 1 := by omega
  have q5 : (k : Int) + 1 <= (n : Int) := by omega
  have q6 : ((k : Int) + 1).toNat = k + 1 := by omega
  have q7 : IntKind.i64.wrap ((k : Int) + 1) = (k : Int) + 1 := by rw [IntKind.wrap_i64]; omega
  have q8 : k + 1 <= n := by omega
  clear hf hrt hrh
  go_wp2_with (first
   | (at_builtin; refine wpList_app _ rfl _ _ _ rfl Tryz.el_ent hlit.out rfl ((Hrh.out.below (belA (bel0 w1) _)).more (Nat.le_succ _)) rfl (ES_cells _) (by unfold maxLen; omega) (by omega) (by simp) ?_; intro v2 w2 own2 _ _ hb2; rw [Nat.zero_add] at own2; have Own2 := Lib.hid own2; have B2 := Lib.hid ((belA (bel0 w1) (.cells #[] 38)).trans hb2); clear own2 hb2)
   | (at_builtin; refine wpList_app _ rfl _ _ _ rfl Tryz.el_ent Own2.out rfl ((Hrt.out.below B2.out).more B2.out.size) rfl (ES_cells _) (by unfold maxLen; omega) (by omega) (B2.out.size) ?_; intro v3 w3 own3 _ _ hb3; have Own3 := Lib.hid own3; have B3 := Lib.hid (B2.out.trans hb3); clear own3 hb3))
  have h3 := Own3.out
  rw [show ([] : List Value) ++ ES (ds.take k) = ES (ds.take k) from rfl, <- ES_append] at h3
  refine bodyPost_ret (v := .tuple #[v3, .bool true]) (by simp [results, Tryz.results179, go_sem]) rfl ⟨chgAt_end Hf.out rfl (by have := HL.out; simp; omega) (own_more h3 (Nat.le_trans hbase hb1.size)), belN hb1 B3.out⟩

end Go.Proofs.YtjjniapamdleoaaGreatDoor
