/- Volumes in memory of one's own: what is written to one. -/
import Derived.Test.YtjjniapamdleoaaGreatDoorRCCpE
import Derived.Test.YtjjniapamdleoaaGreatDoorRCCpV
namespace Go.Proofs.YtjjniapamdleoaaGreatDoor
open Go Go.RowKit

theorem IC_set4 : ∀ {xs : List InoD} {vs : List Value} {k : Nat} (_ : k < xs.length) (_ : vs.length = xs.length) (es : List EntD) (u : Value), (IC xs vs).set (k * 5 + 4) u = IC (ptE xs k es) (vs.set k u)
 | x :: xs, v :: vs, 0, _, _, es, u => rfl
 | x :: xs, v :: vs, k + 1, hk, hl, es, u => by
  have ih := IC_set4 (xs := xs) (vs := vs) (k := k) (by simpa using hk) (by simpa using hl) es u
  have hp : ptE (x :: xs) (k + 1) es = x :: ptE xs k es := by rw [putE_at (by simpa using hk), putE_at (by simpa using hk)]; rfl
  rw [hp, show (k + 1) * 5 + 4 = k * 5 + 4 + 1 + 1 + 1 + 1 + 1 by omega]
  simp only [IC, List.set_cons_succ]
  rw [ih]
theorem IC_set2 : ∀ {xs : List InoD} {vs : List Value} {k : Nat} (_ : k < xs.length) (_ : vs.length = xs.length) (ln : Int), (IC xs vs).set (k * 5 + 2) (.int .i64 ln) = IC (ptL xs k ln) vs
 | x :: xs, v :: vs, 0, _, _, ln => rfl
 | x :: xs, v :: vs, k + 1, hk, hl, ln => by
  have ih := IC_set2 (xs := xs) (vs := vs) (k := k) (by simpa using hk) (by simpa using hl) ln
  have hp : ptL (x :: xs) (k + 1) ln = x :: ptL xs k ln := by rw [putL_at (by simpa using hk), putL_at (by simpa using hk)]; rfl
  rw [hp, show (k + 1) * 5 + 2 = k * 5 + 2 + 1 + 1 + 1 + 1 + 1 by omega]
  simp only [IC, List.set_cons_succ]
  rw [ih]
/-- The rows of entries of inodes, save one. -/
def OwnX (w : World) (lo : Nat) (xs : List InoD) (vs : List Value) (k : Nat) : Prop :=
 vs.length = xs.length /\ ∀ (i : Nat) (hi : i < xs.length), i ≠ k -> ∃ v, vs[i]? = some v /\ w.ownsRow lo 38 4 v xs[i].es.length (ES xs[i].es)
/-- No two rows lie in one block. -/
def DisV (vs : List Value) : Prop := vs.Pairwise fun u v => ∀ k, u.ownBlock = some k -> v.ownBlock ≠ some k
/-- A volume's inodes in memory of one's own: the row's block g (room c), the rows of entries. -/
def YR (w : World) (lo g c : Nat) (xs : List InoD) (vs : List Value) : Prop :=
 w.ownsRow lo 36 5 (.slice (some ⟨g, 0, none⟩) xs.length c) xs.length (IC xs vs) /\ OwnV w lo xs vs
section
variable {w w' : World} {lo g c k : Nat} {xs : List InoD} {vs : List Value} {es : List EntD} {ve : Value}
theorem OwnV.x (h : OwnV w lo xs vs) (k : Nat) : OwnX w lo xs vs k := ⟨h.1, fun i hi _ => h.2 i hi⟩
theorem OwnX.below (h : OwnX w lo xs vs k) (hb : Below w.heap.size w w') : OwnX w' lo xs vs k :=
 ⟨h.1, fun i hi hne => by obtain ⟨v, h1, h2⟩ := h.2 i hi hne; exact ⟨v, h1, own_below h2 hb (Nat.le_refl _)⟩⟩
theorem YR.below (h : YR w lo g c xs vs) (hb : Below w.heap.size w w') : YR w' lo g c xs vs := ⟨own_below h.1 hb (Nat.le_refl _), h.2.below hb⟩
theorem OwnV.more (h : OwnV w lo xs vs) {lo' : Nat} (hl : lo' <= lo) : OwnV w lo' xs vs := ⟨h.1, fun i hi => by obtain ⟨v, h1, h2⟩ := h.2 i hi; exact ⟨v, h1, own_more h2 hl⟩⟩
theorem YR.more (h : YR w lo g c xs vs) {lo' : Nat} (hl : lo' <= lo) : YR w lo' g c xs vs := ⟨own_more h.1 hl, h.2.more hl⟩
theorem YR.isC (h : YR w lo g c xs vs) (nx : Int) : IsVolC w (.agg #[.int .i64 nx, .slice (some ⟨g, 0, none⟩) xs.length c]) ⟨nx, xs⟩ := h.2.vol nx rfl h.1
theorem YR.hi (h : YR w lo g c xs vs) : lo <= g /\ g < w.heap.size := h.1.lt g rfl
theorem YR.at_ (h : YR w lo g c xs vs) (hk : k < xs.length) : ∃ v, vs[k]? = some v /\ w.ownsRow lo 38 4 v xs[k].es.length (ES xs[k].es) /\ w.cell? ⟨g, k * 5, none⟩ = some (.int .i64 xs[k].id) /\ w.cell? ⟨g, k * 5 + 1, none⟩ = some (.int .i64 xs[k].kd) /\
  w.cell? ⟨g, k * 5 + 2, none⟩ = some (.int .i64 xs[k].ln) /\ w.cell? ⟨g, k * 5 + 3, none⟩ = some (.string xs[k].s) /\ w.cell? ⟨g, k * 5 + 4, none⟩ = some v := by
 obtain ⟨v, h1, h2⟩ := h.2.2 k hk
 obtain ⟨g0, g1, g2, g3, g4⟩ := IC_get xs vs k hk v h1
 have hl := IC_length xs vs h.2.1
 have z : ∀ j u, (IC xs vs)[j]? = some u -> j < xs.length * 5 -> w.cell? ⟨g, j, none⟩ = some u := fun j u hu hj => by rw [h.1.cellAt j hj]; exact hu
 exact ⟨v, h1, h2, z _ _ g0 (by omega), z _ _ g1 (by omega), z _ _ g2 (by omega), z _ _ g3 (by omega), z _ _ g4 (by omega)⟩
theorem YR.frozen (h : YR w lo g c xs vs) (j : Nat) : w.frozen? ⟨g, j, none⟩ = false := own_frozen h.1 j
theorem OwnX.set_ {b n : Nat} {ys : List Value} (h : OwnX w lo xs vs k) (hv : w.ownsRow b 36 5 (.slice (some ⟨g, 0, none⟩) n c) n ys) (j : Nat) (u : Value) : OwnX (w.setCell ⟨g, j, none⟩ u) lo xs vs k :=
 ⟨h.1, fun i hi hne => by
  obtain ⟨v, h1, h2⟩ := h.2 i hi hne
  exact ⟨v, h1, h2.kept (only_setCell (p := ⟨g, j, none⟩) (grown_refl w (some g)) (.inl rfl) u) (own_ne2 h2 hv (by decide))⟩⟩
/-- An inode's row of entries is put in. -/
theorem YR.putE (hI : w.ownsRow lo 36 5 (.slice (some ⟨g, 0, none⟩) xs.length c) xs.length (IC xs vs)) (hX : OwnX w lo xs vs k) (hk : k < xs.length) (hv : w.ownsRow lo 38 4 ve es.length (ES es)) :
  YR (w.setCell ⟨g, k * 5 + 4, none⟩ ve) lo g c (ptE xs k es) (vs.set k ve) := by
 have hl := hX.1
 refine ⟨?_, by rw [putE_len, List.length_set]; exact hl, fun i hi => ?_⟩
 ·have h := own_set hI (k * 5 + 4) ve
  rw [IC_set4 hk hl es ve] at h
  rw [putE_len]
  exact h
 ·have hi' : i < xs.length := by rw [putE_len] at hi; exact hi
  have hv2 : (w.setCell ⟨g, k * 5 + 4, none⟩ ve).ownsRow lo 38 4 ve es.length (ES es) := hv.kept (only_setCell (p := ⟨g, k * 5 + 4, none⟩) (grown_refl w (some g)) (.inl rfl) ve) (own_ne2 hv hI (by decide))
  by_cases hik : i = k
  ·subst hik
   refine ⟨ve, by rw [List.getElem?_set_self (by omega)], ?_⟩
   rw [putE_same hk hi]
   exact hv2
  ·obtain ⟨u, h1, h2⟩ := (hX.set_ hI (k * 5 + 4) ve).2 i hi' hik
   refine ⟨u, by rw [List.getElem?_set_ne (Ne.symm hik)]; exact h1, ?_⟩
   rw [putE_ne hk hik hi]
   exact h2
theorem OwnV.esame {ys : List InoD} (h : OwnV w lo xs vs) (he : ys.map (·.es) = xs.map (·.es)) : OwnV w lo ys vs := by
 have hl : ys.length = xs.length := by simpa using congrArg List.length he
 refine ⟨h.1.trans hl.symm, fun i hi => ?_⟩
 have hx : ys[i].es = (xs[i]'(by omega)).es := by
  have h1 : (ys.map (·.es))[i]? = (xs.map (·.es))[i]? := by rw [he]
  rw [List.getElem?_map, List.getElem?_map, List.getElem?_eq_getElem hi, List.getElem?_eq_getElem (by omega)] at h1
  exact Option.some.inj h1
 rw [hx]
 exact h.2 i (by omega)
theorem es_set {y : InoD} (hk : k < xs.length) (hy : y.es = xs[k].es) : (xs.set k y).map (·.es) = xs.map (·.es) := by
 rw [List.map_set, hy]
 have : xs[k].es = (xs.map (·.es))[k]'(by simpa using hk) := by simp
 rw [this, List.set_getElem_self]
/-- An inode's links are put in. -/
theorem YR.putL (h : YR w lo g c xs vs) (hk : k < xs.length) (ln : Int) : YR (w.setCell ⟨g, k * 5 + 2, none⟩ (.int .i64 ln)) lo g c (ptL xs k ln) vs := by
 refine ⟨?_, OwnV.esame (xs := xs) ⟨h.2.1, fun i hi => ?_⟩ (by rw [putL_at hk]; exact es_set hk rfl)⟩
 ·have h2 := own_set h.1 (k * 5 + 2) (.int .i64 ln)
  rw [IC_set2 hk h.2.1 ln] at h2
  rw [putL_len]
  exact h2
 ·obtain ⟨v, h1, h2⟩ := h.2.2 i hi
  exact ⟨v, h1, h2.kept (only_setCell (p := ⟨g, k * 5 + 2, none⟩) (grown_refl w (some g)) (.inl rfl) _) (own_ne2 h2 h.1 (by decide))⟩
theorem DisV.snoc (h : DisV vs) (hr : OwnV w lo xs vs) {b n : Nat} {e : TypeId} {size : Nat} {ys : List Value} {w1 : World} (hv : w1.ownsRow b e size ve n ys) (hb : w.heap.size <= b) : DisV (vs ++ [ve]) := by
 unfold DisV
 rw [List.pairwise_append]
 refine ⟨h, List.pairwise_singleton _ _, fun u hu v hv2 k h1 h2 => ?_⟩
 rw [List.mem_singleton.1 hv2] at h2
 obtain ⟨i, hi, rfl⟩ := List.getElem_of_mem hu
 obtain ⟨u', h3, h4⟩ := hr.2 i (by rw [<- hr.1]; exact hi)
 rw [List.getElem?_eq_getElem hi] at h3
 have h5 := Option.some.inj h3
 subst h5
 have h6 := (h4.lt k h1).2
 have h7 := (hv.lt k h2).1
 omega
end

end Go.Proofs.YtjjniapamdleoaaGreatDoor
