/- What stands below an inode, and its sizes: plain Lean. -/
import Derived.Test.YtjjniapamdleoaaGreatDoorRSLk
import Derived.Lib.SlicesCompact
namespace Go.Proofs.YtjjniapamdleoaaGreatDoor
open Go Go.RowKit

theorem cup_step {l : List Int} (h : l.Pairwise (· <= ·)) : ∀ m, m <= l.length -> (Lib.compactUpTo l.toArray m).Pairwise (· < ·) /\ ∀ x, x ∈ Lib.compactUpTo l.toArray m ↔ ∃ (j : Nat) (hj : j < l.length), j < m /\ l[j] = x
 | 0, _ => by
  refine ⟨by simp [Lib.compactUpTo], fun x => ⟨fun hx => ?_, fun ⟨_, _, hj, _⟩ => by omega⟩⟩
  simp [Lib.compactUpTo] at hx
 | m + 1, hm => by
  have hm' : m < l.length := by omega
  obtain ⟨h1, h2⟩ := cup_step h m (by omega)
  have hg : ∀ j (hj : j < l.length), (l.toArray)[j]! = l[j] := fun j hj => by simp [hj]
  have hle := List.pairwise_iff_getElem.1 h
  rw [Lib.compactUpTo_succ]
  by_cases hk : Lib.keeps l.toArray m = true
  ·rw [if_pos hk, hg m hm']
   refine ⟨List.pairwise_append.2 ⟨h1, List.pairwise_singleton _ _, fun a ha b hb => ?_⟩, fun x => ?_⟩
   ·rw [List.mem_singleton.1 hb]
    obtain ⟨j, hj, hjm, rfl⟩ := (h2 a).1 ha
    unfold Lib.keeps at hk
    have hk' := of_decide_eq_true hk
    rcases hk' with h0 | h0
    ·omega
    ·rw [hg m hm', hg (m - 1) (by omega)] at h0
     have h3 := hle (m - 1) m (by omega) hm' (by omega)
     have h4 : l[j] <= l[m - 1] := by
      by_cases hj1 : j = m - 1
      ·subst hj1; exact Int.le_refl _
      ·exact hle j (m - 1) hj (by omega) (by omega)
     omega
   ·rw [List.mem_append, h2, List.mem_singleton]
    constructor
    ·rintro (⟨j, hj, hjm, he⟩ | rfl)
     ·exact ⟨j, hj, by omega, he⟩
     ·exact ⟨m, hm', by omega, rfl⟩
    ·rintro ⟨j, hj, hjm, rfl⟩
     by_cases hj1 : j = m
     ·subst hj1; exact .inr rfl
     ·exact .inl ⟨j, hj, by omega, rfl⟩
  ·rw [if_neg hk, List.append_nil]
   refine ⟨h1, fun x => ?_⟩
   rw [h2]
   have hk' : ¬ (m = 0 ∨ (l.toArray)[m]! ≠ (l.toArray)[m - 1]!) := by intro h0; exact hk (by unfold Lib.keeps; exact decide_eq_true h0)
   have hm0 : m ≠ 0 := fun h0 => hk' (.inl h0)
   have he : l[m] = l[m - 1] := by
    have : (l.toArray)[m]! = (l.toArray)[m - 1]! := by
     by_cases h5 : (l.toArray)[m]! = (l.toArray)[m - 1]!
     ·exact h5
     ·exact absurd (.inr h5) hk'
    rwa [hg m hm', hg (m - 1) (by omega)] at this
   constructor
   ·rintro ⟨j, hj, hjm, he⟩; exact ⟨j, hj, by omega, he⟩
   ·rintro ⟨j, hj, hjm, rfl⟩
    by_cases hj1 : j = m
    ·subst hj1; exact ⟨j - 1, by omega, by omega, he.symm⟩
    ·exact ⟨j, hj, by omega, rfl⟩
/-- A sorted row without its doubles rises and has the same members. -/
theorem compact_up {l : List Int} (h : l.Pairwise (· <= ·)) : (Lib.compact l).Pairwise (· < ·) /\ ∀ x, x ∈ Lib.compact l ↔ x ∈ l := by
 obtain ⟨h1, h2⟩ := cup_step h l.length (Nat.le_refl _)
 refine ⟨h1, fun x => ?_⟩
 show x ∈ Lib.compactUpTo _ _ ↔ _
 rw [h2, List.mem_iff_getElem]
 constructor
 ·rintro ⟨j, hj, _, h⟩; exact ⟨j, hj, h⟩
 ·rintro ⟨j, hj, h⟩; exact ⟨j, hj, hj, h⟩
theorem sort_le (l : List Int) : (l.mergeSort fun x y => decide (x <= y)).Pairwise (· <= ·) := by
 have := List.pairwise_mergeSort (le := fun x y : Int => decide (x <= y)) (fun a b c h1 h2 => by simp at *; omega) (fun a b => by simp; omega) l
 exact this.imp fun h => by simpa using h
/-- What slices.Sort and slices.Compact leave of a row. -/
noncomputable def setL (l : List Int) : List Int := Lib.compact (l.mergeSort fun x y => decide (x <= y))
theorem setL_up (l : List Int) : (setL l).Pairwise (· < ·) /\ ∀ x, x ∈ setL l ↔ x ∈ l := by
 obtain ⟨h1, h2⟩ := compact_up (sort_le l)
 exact ⟨h1, fun x => by unfold setL; rw [h2]; exact (List.mergeSort_perm l _).mem_iff⟩

/-- How much data the inode of an id has. -/
def szAt (xs : List InoD) (y : Int) : Nat := match xs[(plc xs y).toNat]? with | none => 0 | some x => x.s.size
def duL (xs : List InoD) (l : List Int) : Nat := (l.map (szAt xs)).sum
theorem duL_succ {xs : List InoD} {l : List Int} {k : Nat} (hk : k < l.length) : duL xs (l.take (k + 1)) = duL xs (l.take k) + szAt xs l[k] := by
 unfold duL; rw [List.take_succ_eq_append_getElem hk, List.map_append, List.sum_append]; simp
theorem duL_all {xs : List InoD} {l : List Int} {k : Nat} (hk : l.length <= k) : duL xs (l.take k) = duL xs l := by rw [List.take_of_length_le hk]
theorem duL_le (xs : List InoD) : ∀ (l : List Int) (k : Nat), duL xs (l.take k) <= duL xs l
 | [], k => by simp [duL]
 | e :: l, 0 => by simp [duL]
 | e :: l, k + 1 => by have := duL_le xs l k; unfold duL at *; simp only [List.take_succ_cons, List.map_cons, List.sum_cons]; omega
/-- The sizes of the first places that are marked. -/
def duS (xs : List InoD) (bs : List Bool) : Nat -> Nat
 | 0 => 0
 | k + 1 => duS xs bs k + match xs[k]?, bs[k]? with | some x, some true => x.s.size | _, _ => 0
theorem duS_on {xs : List InoD} {bs : List Bool} {k : Nat} (hk : k < xs.length) (h : bs[k]? = some true) : duS xs bs (k + 1) = duS xs bs k + xs[k].s.size := by rw [duS, List.getElem?_eq_getElem hk, h]
theorem duS_off {xs : List InoD} {bs : List Bool} {k : Nat} (h : bs[k]? = some false) : duS xs bs (k + 1) = duS xs bs k := by
 rw [duS, h]; cases xs[k]? <;> rfl
theorem sum_filter {α : Type} (p : α -> Bool) (f : α -> Nat) : ∀ l : List α, (l.map fun x => if p x = true then f x else 0).sum = ((l.filter p).map f).sum
 | [] => rfl
 | x :: l => by
  rw [List.map_cons, List.sum_cons, sum_filter p f l, List.filter_cons]
  cases p x <;> simp
theorem ids_lt {xs : List InoD} (h : ∀ (k : Nat) (hk : k < xs.length), ∀ (_ : 0 < k), xs[k-1].id < xs[k].id) : (xs.map (·.id)).Pairwise (· < ·) := by
 rw [List.pairwise_iff_getElem]
 intro i j hi hj hij
 simp only [List.length_map] at hi hj
 simp only [List.getElem_map]
 exact grow_lt h i j hj hij
section
variable {nx : Int} {xs : List InoD}
theorem rch_mem {a y : Int} (hv : VolP nx xs) (h : Rch xs a y) : 0 <= plc xs y /\ ∃ x ∈ xs, x.id = a /\ x.es ≠ [] := by
 have one : ∀ {b c : Int}, c ∈ kids xs b -> 0 <= plc xs c /\ ∃ x ∈ xs, x.id = b /\ x.es ≠ [] := by
  intro b c hc
  rcases plc_cases xs b with ⟨h1, _⟩ | ⟨k, hk, h1, h2, _⟩
  ·rw [kids_miss (by omega)] at hc; cases hc
  ·rw [kids_hit h1, kidsAt_get hk] at hc
   obtain ⟨e, he, rfl⟩ := List.mem_map.1 hc
   exact ⟨(hv.not1 (List.getElem_mem hk) he).2, _, List.getElem_mem hk, h2, List.ne_nil_of_mem he⟩
 induction h with
 | one h => exact one h
 | more _ h ih => exact ⟨(one h).1, ih.2⟩
theorem szAt_own (hv : VolP nx xs) {x : InoD} (hx : x ∈ xs) : szAt xs x.id = x.s.size := by unfold szAt; rw [plc_mem hv hx]
/-- A file: nothing but itself. -/
theorem du_file (hv : VolP nx xs) {x : InoD} (hx : x ∈ xs) (hd : x.kd ≠ 2) {l : List Int} (hl : l.Pairwise (· < ·)) (hm : ∀ y, y ∈ l ↔ Rch xs x.id y ∨ y = x.id) : duL xs l = x.s.size := by
 have hne : ∀ y, ¬ Rch xs x.id y := fun y hy => by
  obtain ⟨_, z, hz, hid, hes⟩ := rch_mem hv hy
  have h1 := plc_mem hv hz
  rw [hid, plc_mem hv hx] at h1
  injection h1 with h1
  rw [<- h1] at hes
  exact hd (hv.dir hx hes)
 have h2 : l.Perm [x.id] := by
  refine (List.perm_ext_iff_of_nodup (hl.imp fun h => Int.ne_of_lt h) (List.nodup_cons.2 ⟨by simp, List.nodup_nil⟩)).2 fun y => ?_
  rw [hm, List.mem_singleton]
  exact ⟨fun h => h.resolve_left (hne y), .inr⟩
 unfold duL
 rw [(h2.map _).sum_nat]
 simp [szAt_own hv hx]
/-- A directory: all that stands below. -/
theorem du_dir (hv : VolP nx xs) {x : InoD} (hx : x ∈ xs) (hd : x.kd = 2) {l : List Int} (hl : l.Pairwise (· < ·)) (hm : ∀ y, y ∈ l ↔ Rch xs x.id y ∨ y = x.id) : duL xs l = duS xs (belowB xs x.id) xs.length := by
 classical
 have h0 : x.s.size = 0 := by
  have h2 := hv.ino hx
  unfold inoOkB at h2
  rw [if_neg (by omega)] at h2
  simp at h2
  simp [h2.1.1.1.1.2]
 have h1 : ∀ k, k <= xs.length -> duS xs (belowB xs x.id) k = ((xs.take k).map fun y => if decide (Rch xs x.id y.id ∨ y.id = x.id) = true then y.s.size else 0).sum := by
  intro k
  induction k with
  | zero => intro _; rfl
  | succ k ih =>
   intro hk
   have hk' : k < xs.length := by omega
   rw [List.take_succ_eq_append_getElem hk', List.map_append, List.sum_append, <- ih (by omega)]
   have hb := below_own hv.grow x.id hk'
   have hlen := belowB_len xs x.id
   have hk2 : k < (belowB xs x.id).length := by omega
   simp only [List.map_cons, List.map_nil, List.sum_cons, List.sum_nil, Nat.add_zero]
   by_cases hr : Rch xs x.id xs[k].id
   ·rw [duS_on hk' (hb.2 hr), if_pos (by simp [hr])]
   ·have hf : (belowB xs x.id)[k]? = some false := by
     rw [List.getElem?_eq_getElem hk2]
     rcases hbk : (belowB xs x.id)[k] with _ | _
     ·rfl
     ·exact absurd (hb.1 (by rw [List.getElem?_eq_getElem hk2, hbk])) hr
    rw [duS_off hf]
    by_cases he : xs[k].id = x.id
    ·have h3 := plc_mem hv hx
     rw [<- he, plc_mem hv (List.getElem_mem hk')] at h3
     injection h3 with h3
     rw [if_pos (by simp [he]), h3, h0]; rfl
    ·rw [if_neg (by simp [hr, he])]; rfl
 have h2 := h1 xs.length (Nat.le_refl _)
 rw [List.take_length] at h2
 rw [h2, sum_filter (fun y : InoD => decide (Rch xs x.id y.id ∨ y.id = x.id)) (fun y => y.s.size)]
 have h3 : ∀ l2 : List InoD, (∀ y ∈ l2, y ∈ xs) -> (l2.map fun y => y.s.size).sum = ((l2.map (·.id)).map (szAt xs)).sum := by
  intro l2
  induction l2 with
  | nil => intro _; rfl
  | cons y l2 ih =>
   intro h
   rw [List.map_cons, List.sum_cons, List.map_cons, List.map_cons, List.sum_cons, ih fun z hz => h z (by simp [hz]), szAt_own hv (h y (by simp))]
 rw [h3 _ fun y hy => (List.mem_filter.1 hy).1]
 unfold duL
 refine List.Perm.sum_nat (List.Perm.map _ ?_)
 have hnd : (xs.map (·.id)).Pairwise (· < ·) := ids_lt hv.grow
 refine (List.perm_ext_iff_of_nodup (hl.imp fun h => Int.ne_of_lt h) ?_).2 fun y => ?_
 ·have : ((xs.filter fun y => decide (Rch xs x.id y.id ∨ y.id = x.id)).map (·.id)).Sublist (xs.map (·.id)) := List.Sublist.map _ List.filter_sublist
  exact (hnd.sublist this).imp fun h => Int.ne_of_lt h
 ·rw [hm, List.mem_map]
  constructor
  ·intro h
   have hp : 0 <= plc xs y := by
    rcases h with h | rfl
    ·exact (rch_mem hv h).1
    ·obtain ⟨k, hk, rfl⟩ := List.getElem_of_mem hx
     rw [plc_own hv.grow hk]; omega
   obtain ⟨k, hk, _, hid⟩ := plc_lt hp
   refine ⟨xs[k], List.mem_filter.2 ⟨List.getElem_mem hk, ?_⟩, hid⟩
   rw [hid]; simpa using h
  ·rintro ⟨z, hz, rfl⟩
   simpa using (List.mem_filter.1 hz).2
end
/-- What Du gives, of where a path leads to. -/
noncomputable def duP (V : VolD) (p : List ByteArray × Bool) : Int × Int :=
 if (walkP V p).2 ≠ 0 then (0, (walkP V p).2)
 else match V.xs[(plc V.xs (walkP V p).1).toNat]? with
  | none => (0, 0)
  | some x => if x.kd = 2 then ((duS V.xs (belowB V.xs (walkP V p).1) V.xs.length : Int), 0) else ((x.s.size : Int), 0)

end Go.Proofs.YtjjniapamdleoaaGreatDoor
