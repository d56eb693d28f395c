/- What stands below a directory and fits: plain Lean. -/
import Derived.Test.YthdbomkddpnhaaaGreatDoorPTarP
import Derived.Test.YthdbomkddpnhaaaGreatDoorPSorts
namespace Go.Proofs.YthdbomkddpnhaaaGreatDoor
open Go Go.RowKit

/-- Of one entry: its path, where it fits, and what stands below it. -/
def fndOne (xs : List InoD) (P : EntD → InoD → Bool) (F : Int → ByteArray → List ByteArray) (pre : ByteArray) (e : EntD) : List ByteArray :=
 match xs[(plc xs e.d).toNat]? with
 | none => []
 | some x => (if P e x = true then [pre ++ str [47] ++ e.s] else []) ++ (if x.kd = 2 then F x.id (pre ++ str [47] ++ e.s) else [])
def fndR (xs : List InoD) (P : EntD → InoD → Bool) (F : Int → ByteArray → List ByteArray) (pre : ByteArray) (es : List EntD) : List ByteArray := es.flatMap (fndOne xs P F pre)
def fndF (xs : List InoD) (P : EntD → InoD → Bool) : Nat → Int → ByteArray → List ByteArray
 | 0, _, _ => []
 | n + 1, a, pre => fndR xs P (fndF xs P n) pre (entsOf xs a)
noncomputable def fndT (xs : List InoD) (P : EntD → InoD → Bool) (a : Int) (pre : ByteArray) : List ByteArray := fndF xs P (16 - dpt xs a) a pre
theorem fndR_snoc {xs : List InoD} {P : EntD → InoD → Bool} {F : Int → ByteArray → List ByteArray} {pre : ByteArray} {es : List EntD} {k : Nat} (hk : k < es.length) : fndR xs P F pre (es.take (k + 1)) = fndR xs P F pre (es.take k) ++ fndOne xs P F pre es[k] := by
 unfold fndR; rw [List.take_succ_eq_append_getElem hk, List.flatMap_append]; simp
theorem fndR_take (xs : List InoD) (P : EntD → InoD → Bool) (F : Int → ByteArray → List ByteArray) (pre : ByteArray) (es : List EntD) (k : Nat) : (fndR xs P F pre (es.take k)).length ≤ (fndR xs P F pre es).length := by
 unfold fndR
 conv => rhs; rw [← List.take_append_drop k es, List.flatMap_append, List.length_append]
 omega

/-- How many there are at most. -/
def cntOne (xs : List InoD) (C : Int → Nat) (e : EntD) : Nat := match xs[(plc xs e.d).toNat]? with | none => 0 | some x => 1 + if x.kd = 2 then C x.id else 0
def cntF (xs : List InoD) : Nat → Int → Nat
 | 0, _ => 0
 | n + 1, a => ((entsOf xs a).map (cntOne xs (cntF xs n))).sum
theorem fndF_cnt (xs : List InoD) (P : EntD → InoD → Bool) : ∀ (n : Nat) (a : Int) (pre : ByteArray), (fndF xs P n a pre).length ≤ cntF xs n a
 | 0, _, _ => Nat.le_refl _
 | n + 1, a, pre => by
  unfold fndF cntF fndR
  have : ∀ l : List EntD, (l.flatMap (fndOne xs P (fndF xs P n) pre)).length ≤ (l.map (cntOne xs (cntF xs n))).sum := by
   intro l
   induction l with
   | nil => simp
   | cons e l ih =>
    rw [List.flatMap_cons, List.length_append, List.map_cons, List.sum_cons]
    have : (fndOne xs P (fndF xs P n) pre e).length ≤ cntOne xs (cntF xs n) e := by
     unfold fndOne cntOne
     split
     ·exact Nat.le_refl _
     ·rename_i x _
      have h1 := fndF_cnt xs P n x.id (pre ++ str [47] ++ e.s)
      rw [List.length_append]
      have h2 : (if P e x = true then [pre ++ str [47] ++ e.s] else []).length ≤ 1 := by split <;> simp
      have h3 : (if x.kd = 2 then fndF xs P n x.id (pre ++ str [47] ++ e.s) else []).length ≤ if x.kd = 2 then cntF xs n x.id else 0 := by split <;> simp [h1]
      omega
    omega
  exact this _
def gzc (xs : List InoD) (n : Nat) (c : Int) : Nat := match xs[(plc xs c).toNat]? with | none => 0 | some x => if x.kd = 2 then cntF xs n x.id else 0
section
variable {nx : Int} {xs : List InoD}
theorem one_cnt (n : Nat) (e : EntD) : cntOne xs (cntF xs n) e ≤ 1 + gzc xs n e.d := by
 unfold cntOne gzc
 split <;> omega
theorem row_cnt (hv : VolP nx xs) {x : InoD} (hx : x ∈ xs) (n : Nat) : cntF xs (n + 1) x.id ≤ 12 + ((x.es.map (·.d)).map (gzc xs n)).sum := by
 unfold cntF entsOf
 rw [plc_mem hv hx]
 have h12 := es_len hv hx
 have : ∀ (l : List EntD), (l.map (cntOne xs (cntF xs n))).sum ≤ l.length + ((l.map (·.d)).map (gzc xs n)).sum := by
  intro l
  induction l with
  | nil => simp
  | cons e l ih =>
   have h2 := one_cnt (xs := xs) n e
   simp only [List.map_cons, List.sum_cons, List.length_cons]
   omega
 have := this x.es
 simp only
 omega
def totc (xs : List InoD) (n : Nat) : Nat := ((xs.map (·.id)).map (gzc xs n)).sum
theorem totc_le (hv : VolP nx xs) : ∀ n, totc xs n ≤ n * 200
 | 0 => by
  unfold totc
  have : ∀ l : List Int, (l.map (gzc xs 0)).sum = 0 := by
   intro l
   induction l with
   | nil => rfl
   | cons c l ih =>
    rw [List.map_cons, List.sum_cons, ih]
    unfold gzc cntF; split
    ·rfl
    ·split <;> rfl
  rw [this]; omega
 | n + 1 => by
  have ih := totc_le hv n
  have h1 : ∀ (l : List InoD), (∀ x ∈ l, x ∈ xs) → ((l.map (·.id)).map (gzc xs (n + 1))).sum ≤ 12 * l.length + ((allIds l).map (gzc xs n)).sum := by
   intro l
   induction l with
   | nil => simp
   | cons x l ih =>
    intro h
    have h2 := ih fun e he => h e (by simp [he])
    have hx := h x (by simp)
    have h3 := row_cnt hv hx n
    have h4 : gzc xs (n + 1) x.id ≤ cntF xs (n + 1) x.id := by
     unfold gzc
     rw [plc_mem hv hx]
     simp only
     split <;> omega
    unfold allIds at h2 ⊢
    rw [List.flatMap_cons, List.map_append, List.sum_append, List.map_cons, List.map_cons, List.sum_cons, List.length_cons]
    omega
  have h2 := h1 xs fun _ h => h
  have h3 := sum_once (gzc xs n) (allIds xs) (xs.map (·.id)) fun c hc hg => by
   obtain ⟨y, hy, hyc⟩ := List.mem_flatMap.1 hc
   obtain ⟨e, he, rfl⟩ := List.mem_map.1 hyc
   obtain ⟨hne, hp⟩ := hv.not1 hy he
   obtain ⟨k, hk, hpk, hid⟩ := plc_lt hp
   have hkd : xs[k].kd = 2 := by
    by_cases h : xs[k].kd = 2
    ·exact h
    ·exfalso; apply hg
     unfold gzc; rw [hpk, Int.toNat_natCast, List.getElem?_eq_getElem hk]; simp only; rw [if_neg h]
   refine ⟨List.mem_map.2 ⟨_, List.getElem_mem hk, hid⟩, ?_⟩
   have := hv.link1 (List.getElem_mem hk) hkd (by rw [hid]; exact hne)
   unfold linksN at this
   rw [hid] at this; omega
  have h16 := hv.n.2
  unfold totc at ih ⊢
  have : (n + 1) * 200 = n * 200 + 200 := by omega
  omega
theorem cntF_bd (hv : VolP nx xs) {x : InoD} (hx : x ∈ xs) (hd : x.kd = 2) {n : Nat} (hn : n ≤ 16) : cntF xs n x.id ≤ 3200 := by
 have h1 := totc_le hv n
 have h2 := mem_sum (gzc xs n) (xs.map (·.id)) x.id (List.mem_map.2 ⟨x, hx, rfl⟩)
 have h3 : gzc xs n x.id = cntF xs n x.id := by unfold gzc; rw [plc_mem hv hx]; simp only; rw [if_pos hd]
 unfold totc at h1
 have : n * 200 ≤ 16 * 200 := Nat.mul_le_mul_right _ hn
 omega
theorem fndT_len (hv : VolP nx xs) (P : EntD → InoD → Bool) {x : InoD} (hx : x ∈ xs) (hd : x.kd = 2) (pre : ByteArray) : (fndT xs P x.id pre).length ≤ 3200 :=
 Nat.le_trans (fndF_cnt xs P _ x.id pre) (cntF_bd hv hx hd (by omega))
theorem fndT_is (hv : VolP nx xs) (P : EntD → InoD → Bool) {x : InoD} (hx : x ∈ xs) (hd : x.kd = 2) (pre : ByteArray) : fndT xs P x.id pre = fndR xs P (fndT xs P) pre x.es := by
 have h15 := dpt_short hv (a := x.id) ⟨x, hx, rfl, hd⟩
 unfold fndT
 obtain ⟨m, hm⟩ : ∃ m, 16 - dpt xs x.id = m + 1 := ⟨15 - dpt xs x.id, by omega⟩
 rw [hm, fndF]
 unfold entsOf
 rw [plc_mem hv hx]
 simp only
 have : ∀ l : List EntD, (∀ e ∈ l, e ∈ x.es) → l.flatMap (fndOne xs P (fndF xs P m) pre) = l.flatMap (fndOne xs P (fun a p => fndF xs P (16 - dpt xs a) a p) pre) := by
  intro l
  induction l with
  | nil => intro _; rfl
  | cons e l ih =>
   intro h
   rw [List.flatMap_cons, List.flatMap_cons, ih fun y hy => h y (by simp [hy])]
   congr 1
   have he := h e (by simp)
   unfold fndOne
   split
   ·rfl
   ·rename_i y hy
    have hyx := List.mem_of_getElem? hy
    by_cases hyd : y.kd = 2
    ·rw [if_pos hyd, if_pos hyd]
     obtain ⟨_, hp⟩ := hv.not1 hx he
     obtain ⟨k, hk, hpk, hid⟩ := plc_lt hp
     rw [hpk, Int.toNat_natCast, List.getElem?_eq_getElem hk] at hy
     injection hy with hy
     have hk2 := kid_deep hv hx he hyx hyd (by rw [← hy]; exact hid)
     have hm2 : 16 - dpt xs y.id = m := by omega
     simp only [hm2]
    ·rw [if_neg hyd, if_neg hyd]
 unfold fndR
 exact this x.es fun _ h => h
theorem fndOne_at {P : EntD → InoD → Bool} {F : Int → ByteArray → List ByteArray} {pre : ByteArray} {e : EntD} {k : Nat} (hk : k < xs.length) (hp : plc xs e.d = (k : Int)) :
  fndOne xs P F pre e = (if P e xs[k] = true then [pre ++ str [47] ++ e.s] else []) ++ (if xs[k].kd = 2 then F xs[k].id (pre ++ str [47] ++ e.s) else []) := by
 unfold fndOne; rw [hp, Int.toNat_natCast, List.getElem?_eq_getElem hk]
end

/-! ### Putting texts one by one in order -/
theorem tw_imp {α : Type} (p : α → Bool) : ∀ (l : List α) (x : α), x ∈ l.takeWhile p → p x = true
 | [], x, h => by simp at h
 | y :: l, x, h => by
  rw [List.takeWhile_cons] at h
  split at h
  ·rename_i hy
   rcases List.mem_cons.1 h with rfl | h
   ·exact hy
   ·exact tw_imp p l x h
  ·cases h
def putT (l : List ByteArray) (s : ByteArray) : List ByteArray := l.takeWhile (fun x => !decide (s.data.toList < x.data.toList)) ++ s :: l.dropWhile (fun x => !decide (s.data.toList < x.data.toList))
theorem putT_perm (l : List ByteArray) (s : ByteArray) : (putT l s).Perm (s :: l) := by
 unfold putT
 refine List.perm_middle.trans ?_
 rw [List.takeWhile_append_dropWhile]
theorem putT_sorted {l : List ByteArray} (h : l.Pairwise fun x y => x.data.toList ≤ y.data.toList) (s : ByteArray) : (putT l s).Pairwise fun x y => x.data.toList ≤ y.data.toList := by
 unfold putT
 rw [List.pairwise_append]
 refine ⟨h.sublist (List.takeWhile_sublist _), ?_, ?_⟩
 ·rw [List.pairwise_cons]
  refine ⟨fun y hy => ?_, h.sublist (List.dropWhile_sublist _)⟩
  induction l with
  | nil => simp at hy
  | cons x l ih =>
   rw [List.dropWhile_cons] at hy
   split at hy
   ·exact ih (List.pairwise_cons.1 h).2 hy
   ·rename_i hx
    have hx' : s.data.toList < x.data.toList := by simpa using hx
    rcases List.mem_cons.1 hy with rfl | hy
    ·exact List.le_of_lt hx'
    ·exact List.le_trans (List.le_of_lt hx') ((List.pairwise_cons.1 h).1 y hy)
 ·intro x hx y hy
  have hxs : x.data.toList ≤ s.data.toList := by
   have := tw_imp _ _ _ hx
   simp only [Bool.not_eq_true', decide_eq_false_iff_not] at this
   exact List.not_lt.1 this
  rcases List.mem_cons.1 hy with rfl | hy
  ·exact hxs
  ·have hp := List.pairwise_append.1 (by rw [List.takeWhile_append_dropWhile]; exact h : (l.takeWhile (fun x => !decide (s.data.toList < x.data.toList)) ++ l.dropWhile (fun x => !decide (s.data.toList < x.data.toList))).Pairwise fun x y => x.data.toList ≤ y.data.toList)
   exact hp.2.2 x hx y hy
/-- All put one by one: the sorted row. -/
theorem sortS_put (l : List ByteArray) : l.foldl putT [] = sortS l := by
 have h1 : ∀ (l acc : List ByteArray), (acc.Pairwise fun x y => x.data.toList ≤ y.data.toList) → (l.foldl putT acc).Perm (acc ++ l) ∧ (l.foldl putT acc).Pairwise fun x y => x.data.toList ≤ y.data.toList := by
  intro l
  induction l with
  | nil => intro acc h; exact ⟨by simp, h⟩
  | cons s l ih =>
   intro acc h
   obtain ⟨h2, h3⟩ := ih (putT acc s) (putT_sorted h s)
   refine ⟨h2.trans ?_, h3⟩
   refine ((putT_perm acc s).append_right l).trans ?_
   exact List.perm_middle.symm
 obtain ⟨h2, h3⟩ := h1 l [] List.Pairwise.nil
 have h4 : (sortS l).Perm l ∧ (sortS l).Pairwise fun x y => x.data.toList ≤ y.data.toList := by
  have h5 := List.mergeSort_perm (l.map fun s => s.data.toList) (fun x y => decide (x ≤ y))
  have h6 := List.pairwise_mergeSort (le := fun x y : List UInt8 => decide (x ≤ y)) (fun a b c h1 h2 => by simp at *; exact List.le_trans h1 h2) (fun a b => by simp; exact List.le_total a b) (l.map fun s => s.data.toList)
  unfold sortS
  refine ⟨?_, ?_⟩
  ·have h7 := h5.map (fun x => (⟨x.toArray⟩ : ByteArray))
   rw [List.map_map] at h7
   refine h7.trans ?_
   have : ((fun x => (⟨x.toArray⟩ : ByteArray)) ∘ fun s : ByteArray => s.data.toList) = id := by funext s; rfl
   rw [this, List.map_id]
  ·rw [List.pairwise_map]
   exact h6.imp fun h => by simpa using h
 refine List.Perm.eq_of_pairwise (le := fun x y : ByteArray => x.data.toList ≤ y.data.toList) ?_ h3 h4.2 (h2.trans (by simpa using h4.1.symm))
 intro a b _ _ h5 h6
 exact bytes_ext (List.le_antisymm h5 h6)

end Go.Proofs.YthdbomkddpnhaaaGreatDoor

