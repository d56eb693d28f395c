/- What stays right of a volume of one's own while calls change it: plain Lean. -/
import Derived.Test.YtjjniapamdleoaaGreatDoorRCVolA
import Derived.Test.YtjjniapamdleoaaGreatDoorRCDirK
namespace Go.Proofs.YtjjniapamdleoaaGreatDoor
open Go Go.RowKit

/-! Entries: how many have an id. -/
/-- How many entries of a row have an id. -/
def cntE (es : List EntD) (a : Int) : Nat := (es.map (·.d)).count a
/-- One where two are one. -/
def oneI (a b : Int) : Int := if a = b then 1 else 0
theorem oneI_self (a : Int) : oneI a a = 1 := if_pos rfl
theorem oneI_bd (a b : Int) : 0 <= oneI a b /\ oneI a b <= 1 := by unfold oneI; split <;> omega
theorem oneI_ne {a b : Int} (h : a ≠ b) : oneI a b = 0 := if_neg h
theorem cntE_nil (a : Int) : cntE [] a = 0 := rfl
theorem cntE_cons (e : EntD) (es : List EntD) (a : Int) : (cntE (e :: es) a : Int) = oneI a e.d + cntE es a := by
 unfold cntE oneI
 rw [List.map_cons, List.count_cons]
 by_cases h : a = e.d
 ·rw [if_pos h, h, beq_self_eq_true, if_pos rfl]; omega
 ·rw [if_neg h, if_neg (by simpa using fun h' => h h'.symm)]; omega
theorem cntE_append (x y : List EntD) (a : Int) : cntE (x ++ y) a = cntE x a + cntE y a := by unfold cntE; rw [List.map_append, List.count_append]
theorem cntE_split (es : List EntD) (k : Nat) (hk : k < es.length) (a : Int) : (cntE es a : Int) = cntE (es.take k) a + oneI a es[k].d + cntE (es.drop (k + 1)) a := by
 have h : es = es.take k ++ es[k] :: es.drop (k + 1) := by rw [<- List.drop_eq_getElem_cons hk, List.take_append_drop]
 have h2 : (cntE es a : Int) = cntE (es.take k ++ es[k] :: es.drop (k + 1)) a := by rw [<- h]
 rw [h2, cntE_append, Int.natCast_add, cntE_cons]
 omega
theorem insL_cnt (e : EntD) (ds : List EntD) (a : Int) : (cntE (insL e ds) a : Int) = cntE ds a + oneI a e.d := by
 have h : cntE ds a = cntE (ds.takeWhile fun x => behB e x.h x.i) a + cntE (ds.dropWhile fun x => behB e x.h x.i) a := by rw [<- cntE_append, List.takeWhile_append_dropWhile]
 unfold insL
 rw [cntE_append, Int.natCast_add, cntE_cons, h]
 omega
theorem addP_cnt {ds : List EntD} (hd : dirOkB ds = true) (s : ByteArray) (i a : Int) : (cntE (addP ds s i).1 a : Int) <= cntE ds a + oneI a i /\ ∀ e ∈ (addP ds s i).1, e ∈ ds ∨ e.d = i := by
 have h0 := (oneI_bd a i).1
 by_cases hc : nameOkB s = true /\ ds.find? (isN s) = none /\ inI i 1 100000 = true /\ ds.length ≠ 12
 ·rw [addP_yes hd hc]
  refine ⟨?_, fun e he => ?_⟩
  ·show (cntE (insL _ _) a : Int) <= _
   rw [insL_cnt]; exact Int.le_refl _
  ·rcases insL_mem he with rfl | h
   ·exact .inr rfl
   ·exact .inl h
 ·rw [addP_no hd hc]
  exact ⟨by show (cntE ds a : Int) <= _; omega, fun e he => .inl he⟩
theorem dropP_cnt {ds : List EntD} (hd : dirOkB ds = true) {s : ByteArray} {k : Nat} (hk : k < ds.length) (hf : ds.find? (isN s) = some ds[k]) (a : Int) :
  (cntE (dropP ds s).1 a : Int) = cntE ds a - oneI a ds[k].d /\ ∀ e ∈ (dropP ds s).1, e ∈ ds := by
 rw [dropP_yes hd hk hf]
 refine ⟨?_, fun e he => (cut_sub ds k).subset he⟩
 show (cntE (ds.take k ++ ds.drop (k + 1)) a : Int) = _
 rw [cntE_append, cntE_split ds k hk a]
 omega
theorem linksN_eq (xs : List InoD) (a : Int) : linksN xs a = (xs.map fun x => cntE x.es a).sum := by
 unfold linksN allIds
 rw [List.count_flatMap]
 rfl
theorem links_set : ∀ (xs : List InoD) (k : Nat) (hk : k < xs.length) (y : InoD) (a : Int), linksN (xs.set k y) a + cntE xs[k].es a = linksN xs a + cntE y.es a
 | x :: xs, 0, _, y, a => by simp only [linksN_eq, List.set_cons_zero, List.map_cons, List.sum_cons, List.getElem_cons_zero]; omega
 | x :: xs, k + 1, hk, y, a => by
  have := links_set xs k (by simpa using hk) y a
  simp only [linksN_eq, List.set_cons_succ, List.map_cons, List.sum_cons, List.getElem_cons_succ] at *
  omega
theorem links_snoc (xs : List InoD) (y : InoD) (a : Int) : linksN (xs ++ [y]) a = linksN xs a + cntE y.es a := by simp [linksN_eq]
theorem links_none : ∀ {xs : List InoD} {a : Int}, (∀ x ∈ xs, ∀ e ∈ x.es, e.d ≠ a) -> linksN xs a = 0 := by
 intro xs a h
 unfold linksN
 rw [List.count_eq_zero]
 intro hm
 unfold allIds at hm
 obtain ⟨x, hx, hm⟩ := List.mem_flatMap.1 hm
 obtain ⟨e, he, rfl⟩ := List.mem_map.1 hm
 exact h x hx e he rfl
theorem links_some {xs : List InoD} {a : Int} (h : linksN xs a = 0) : ∀ x ∈ xs, ∀ e ∈ x.es, e.d ≠ a := by
 intro x hx e he hd
 unfold linksN at h
 rw [List.count_eq_zero] at h
 exact h (List.mem_flatMap.2 ⟨x, hx, List.mem_map.2 ⟨e, he, hd⟩⟩)
theorem links_filter : ∀ (xs : List InoD) (p : InoD -> Bool) (a : Int), (∀ x ∈ xs, p x = false -> x.es = []) -> linksN (xs.filter p) a = linksN xs a
 | [], _, _, _ => rfl
 | x :: xs, p, a, h => by
  have ih := links_filter xs p a (fun y hy => h y (List.mem_cons_of_mem _ hy))
  rw [List.filter_cons]
  split
  ·simp only [linksN_eq, List.map_cons, List.sum_cons] at *; omega
  ·rename_i hp
   have := h x (List.mem_cons_self ..) (by simpa using hp)
   simp only [linksN_eq, List.map_cons, List.sum_cons, this, cntE_nil] at *; omega
theorem plc_ids {xs ys : List InoD} (h : xs.map (·.id) = ys.map (·.id)) (a : Int) : plc xs a = plc ys a := by
 have hl : xs.length = ys.length := by simpa using congrArg List.length h
 have e : ∀ l : List InoD, l.findIdx (fun x => x.id == a) = (l.map (·.id)).findIdx (· == a) := fun l => by rw [List.findIdx_map]; rfl
 unfold plc
 rw [e xs, e ys, h, hl]
/-- An inode in the place of another one. -/
theorem ids_set {xs : List InoD} {k : Nat} {y : InoD} (hk : k < xs.length) (hy : y.id = xs[k].id) : (xs.set k y).map (·.id) = xs.map (·.id) := by
 rw [List.map_set, hy]
 have : xs[k].id = (xs.map (·.id))[k]'(by simpa using hk) := by simp
 rw [this, List.set_getElem_self]
/-- What stays right of a volume while calls change it (D: by how much too few names or too many are told). -/
structure QG (K : Int) (D : Int -> Int) (V : VolD) : Prop where
 nx : 2 <= V.nx /\ V.nx <= 100000
 len : V.xs.length <= 16
 pw : V.xs.Pairwise fun a b => a.id < b.id
 id : ∀ x ∈ V.xs, 1 <= x.id /\ x.id < V.nx
 root : ∃ x ∈ V.xs, x.id = 1
 kd : ∀ x ∈ V.xs, (x.kd = 1 /\ x.es = []) ∨ x.kd = 2
 dir : ∀ x ∈ V.xs, dirOkB x.es = true
 es : ∀ x ∈ V.xs, ∀ e ∈ x.es, e.d ≠ 1 /\ ∃ y ∈ V.xs, y.id = e.d
 ln : ∀ x ∈ V.xs, (linksN V.xs x.id : Int) <= x.ln + D x.id /\ x.ln <= K
 s : ∀ x ∈ V.xs, x.s.size <= 20
/-- A volume of calls. -/
def QV (K : Int) (V : VolD) : Prop := QG K (fun _ => 0) V
section
variable {K : Int} {D D' : Int -> Int} {V : VolD}
theorem QG.weak (h : QG K D V) {K' : Int} (hK : K <= K') (hD : ∀ x ∈ V.xs, D x.id <= D' x.id) : QG K' D' V :=
 ⟨h.nx, h.len, h.pw, h.id, h.root, h.kd, h.dir, h.es, fun x hx => by have h1 := h.ln x hx; have h2 := hD x hx; omega, h.s⟩
theorem QG.inj (h : QG K D V) {x y : InoD} (hx : x ∈ V.xs) (hy : y ∈ V.xs) (e : x.id = y.id) : x = y := by
 obtain ⟨i, hi, rfl⟩ := List.getElem_of_mem hx
 obtain ⟨j, hj, rfl⟩ := List.getElem_of_mem hy
 have hp := List.pairwise_iff_getElem.1 h.pw
 rcases Nat.lt_trichotomy i j with hl | hl | hl
 ·have := hp i j hi hj hl; omega
 ·subst hl; rfl
 ·have := hp j i hj hi hl; omega
theorem QG.plc_at (h : QG K D V) {k : Nat} (hk : k < V.xs.length) : plc V.xs V.xs[k].id = (k : Int) :=
 plc_hit hk rfl fun j hj => by have := List.pairwise_iff_getElem.1 h.pw j k (by omega) hk hj; omega
theorem QG.found (h : QG K D V) {x : InoD} (hx : x ∈ V.xs) {e : EntD} (he : e ∈ x.es) : ∃ k, ∃ hk : k < V.xs.length, plc V.xs e.d = (k : Int) /\ V.xs[k].id = e.d /\ e.d ≠ 1 := by
 obtain ⟨h1, y, hy, h2⟩ := h.es x hx e he
 obtain ⟨k, hk, rfl⟩ := List.getElem_of_mem hy
 exact ⟨k, hk, by rw [<- h2]; exact h.plc_at hk, h2, h1⟩
/-- An inode's entries, links and data change. -/
theorem QG.set (h : QG K D V) {k : Nat} (hk : k < V.xs.length) {ln' : Int} {s' : ByteArray} {es' : List EntD} {K' : Int} (hK : K <= K') (hkd : V.xs[k].kd = 2 ∨ es' = []) (hd : dirOkB es' = true)
  (hes : ∀ e ∈ es', e.d ≠ 1 /\ ∃ y ∈ V.xs, y.id = e.d) (hs : s'.size <= 20) (hl : ln' <= K')
  (hD : ∀ x ∈ V.xs, (cntE es' x.id : Int) + (if x.id = V.xs[k].id then V.xs[k].ln - ln' else 0) + D x.id <= cntE V.xs[k].es x.id + D' x.id) :
  QG K' D' ⟨V.nx, V.xs.set k ⟨V.xs[k].id, V.xs[k].kd, ln', s', es'⟩⟩ := by
 have hids : (V.xs.set k ⟨V.xs[k].id, V.xs[k].kd, ln', s', es'⟩).map (·.id) = V.xs.map (·.id) := ids_set hk rfl
 have hex : ∀ a : Int, (∃ y ∈ V.xs, y.id = a) -> ∃ y ∈ V.xs.set k ⟨V.xs[k].id, V.xs[k].kd, ln', s', es'⟩, y.id = a := by
  rintro a ⟨y, hy, rfl⟩
  have : y.id ∈ (V.xs.set k ⟨V.xs[k].id, V.xs[k].kd, ln', s', es'⟩).map (·.id) := by rw [hids]; exact List.mem_map_of_mem hy
  obtain ⟨z, hz, h2⟩ := List.mem_map.1 this
  exact ⟨z, hz, h2⟩
 have hkm : V.xs[k] ∈ V.xs := List.getElem_mem hk
 refine ⟨h.nx, by simpa using h.len, ?_, ?_, hex 1 h.root, ?_, ?_, ?_, ?_, ?_⟩
 ·have hp := h.pw
  have : (V.xs.map (·.id)).Pairwise (· < ·) := by rw [List.pairwise_map]; exact hp
  rw [<- hids, List.pairwise_map] at this
  exact this
 ·intro x hx
  rcases List.mem_or_eq_of_mem_set hx with hx | rfl
  ·exact h.id x hx
  ·exact h.id V.xs[k] hkm
 ·intro x hx
  rcases List.mem_or_eq_of_mem_set hx with hx | rfl
  ·exact h.kd x hx
  ·rcases hkd with hkd | hkd
   ·exact .inr hkd
   ·rcases h.kd _ hkm with h1 | h1
    ·exact .inl ⟨h1.1, hkd⟩
    ·exact .inr h1
 ·intro x hx
  rcases List.mem_or_eq_of_mem_set hx with hx | rfl
  ·exact h.dir x hx
  ·exact hd
 ·intro x hx e he
  rcases List.mem_or_eq_of_mem_set hx with hx | rfl
  ·exact ⟨(h.es x hx e he).1, hex _ (h.es x hx e he).2⟩
  ·exact ⟨(hes e he).1, hex _ (hes e he).2⟩
 ·intro x hx
  have hset := links_set V.xs k hk ⟨V.xs[k].id, V.xs[k].kd, ln', s', es'⟩ x.id
  have hset' : linksN (V.xs.set k ⟨V.xs[k].id, V.xs[k].kd, ln', s', es'⟩) x.id + cntE V.xs[k].es x.id = linksN V.xs x.id + cntE es' x.id := hset
  obtain ⟨j, hj, rfl⟩ := List.getElem_of_mem hx
  have hj' : j < V.xs.length := by simpa using hj
  rw [List.getElem_set] at hset' ⊢
  by_cases hkj : k = j
  ·subst hkj
   rw [if_pos rfl] at hset' ⊢
   have h1 := h.ln _ hkm
   have h2 := hD _ hkm
   rw [if_pos rfl] at h2
   show (linksN (V.xs.set k ⟨V.xs[k].id, V.xs[k].kd, ln', s', es'⟩) V.xs[k].id : Int) <= ln' + D' V.xs[k].id /\ ln' <= K'
   have hset2 : linksN (V.xs.set k ⟨V.xs[k].id, V.xs[k].kd, ln', s', es'⟩) V.xs[k].id + cntE V.xs[k].es V.xs[k].id = linksN V.xs V.xs[k].id + cntE es' V.xs[k].id := hset'
   omega
  ·rw [if_neg hkj] at hset' ⊢
   have hjm : V.xs[j] ∈ V.xs := List.getElem_mem hj'
   have h1 := h.ln _ hjm
   have h2 := hD _ hjm
   have hne : V.xs[j].id ≠ V.xs[k].id := by
    have hp := List.pairwise_iff_getElem.1 h.pw
    rcases Nat.lt_or_gt_of_ne hkj with hl | hl
    ·have := hp k j hk hj' hl; omega
    ·have := hp j k hj' hk hl; omega
   rw [if_neg hne] at h2
   show (linksN (V.xs.set k ⟨V.xs[k].id, V.xs[k].kd, ln', s', es'⟩) V.xs[j].id : Int) <= V.xs[j].ln + D' V.xs[j].id /\ V.xs[j].ln <= K'
   omega
 ·intro x hx
  rcases List.mem_or_eq_of_mem_set hx with hx | rfl
  ·exact h.s x hx
  ·exact hs
/-- An inode more. -/
theorem QG.snoc (h : QV K V) (hn : V.xs.length < 16) (hm : V.nx < 100000) {kd : Int} (hkd : kd = 1 ∨ kd = 2) (hK : 1 <= K) : QG K (fun a => - oneI a V.nx) ⟨V.nx + 1, V.xs ++ [⟨V.nx, kd, 1, ⟨#[]⟩, []⟩]⟩ := by
 have hfree : linksN V.xs V.nx = 0 := links_none fun x hx e he hd => by
  obtain ⟨_, y, hy, h2⟩ := h.es x hx e he
  have := (h.id y hy).2
  omega
 have h0 := h.nx
 refine ⟨⟨by show 2 <= V.nx + 1; omega, by show V.nx + 1 <= 100000; omega⟩, by simp; omega, ?_, ?_, ?_, ?_, ?_, ?_, ?_, ?_⟩
 ·show (V.xs ++ [_]).Pairwise _
  rw [List.pairwise_append]
  refine ⟨h.pw, List.pairwise_singleton _ _, fun x hx y hy => ?_⟩
  rw [List.mem_singleton.1 hy]
  exact (h.id x hx).2
 ·intro x hx
  rcases List.mem_append.1 hx with hx | hx
  ·have := h.id x hx; exact ⟨this.1, by show x.id < V.nx + 1; omega⟩
  ·rw [List.mem_singleton.1 hx]; exact ⟨by show 1 <= V.nx; omega, by show V.nx < V.nx + 1; omega⟩
 ·obtain ⟨x, hx, h1⟩ := h.root
  exact ⟨x, List.mem_append_left _ hx, h1⟩
 ·intro x hx
  rcases List.mem_append.1 hx with hx | hx
  ·exact h.kd x hx
  ·rw [List.mem_singleton.1 hx]
   rcases hkd with rfl | rfl
   ·exact .inl ⟨rfl, rfl⟩
   ·exact .inr rfl
 ·intro x hx
  rcases List.mem_append.1 hx with hx | hx
  ·exact h.dir x hx
  ·rw [List.mem_singleton.1 hx]; exact dirOkB_iff.2 ⟨by simp, fun i hi => absurd hi (by simp)⟩
 ·intro x hx e he
  rcases List.mem_append.1 hx with hx | hx
  ·obtain ⟨h1, y, hy, h2⟩ := h.es x hx e he
   exact ⟨h1, y, List.mem_append_left _ hy, h2⟩
  ·rw [List.mem_singleton.1 hx] at he; cases he
 ·intro x hx
  show (linksN (V.xs ++ [_]) x.id : Int) <= _ /\ _
  rw [links_snoc, cntE_nil]
  rcases List.mem_append.1 hx with hx | hx
  ·have h1 := h.ln x hx
   have h2 := (h.id x hx).2
   rw [oneI_ne (show x.id ≠ V.nx by omega)]
   constructor <;> omega
  ·rw [List.mem_singleton.1 hx]
   show ((linksN V.xs V.nx + 0 : Nat) : Int) <= 1 + - oneI V.nx V.nx /\ (1 : Int) <= K
   rw [hfree, oneI_self]
   omega
 ·intro x hx
  rcases List.mem_append.1 hx with hx | hx
  ·exact h.s x hx
  ·rw [List.mem_singleton.1 hx]; show ByteArray.size ⟨#[]⟩ <= 20; exact Nat.zero_le _
/-- An inode goes that no entry names. -/
theorem QG.gone (h : QG K D V) {x : InoD} (hx : x ∈ V.xs) (h1 : x.id ≠ 1) (hes : x.es = []) (h0 : linksN V.xs x.id = 0) (hD : ∀ y ∈ V.xs, y.id ≠ x.id -> D y.id <= 0) : QV K ⟨V.nx, V.xs.filter fun y => y.id != x.id⟩ := by
 have hf : ∀ a, linksN (V.xs.filter fun y => y.id != x.id) a = linksN V.xs a := fun a => links_filter _ _ _ fun y hy hp => by
  have : y.id = x.id := by simpa using hp
  rw [h.inj hy hx this]; exact hes
 have hm : ∀ y, y ∈ V.xs.filter (fun y => y.id != x.id) -> y ∈ V.xs /\ y.id ≠ x.id := fun y hy => by
  have := List.mem_filter.1 hy
  exact ⟨this.1, by simpa using this.2⟩
 have hback : ∀ a : Int, a ≠ x.id -> (∃ y ∈ V.xs, y.id = a) -> ∃ y ∈ V.xs.filter (fun y => y.id != x.id), y.id = a := by
  rintro a ha ⟨y, hy, rfl⟩
  exact ⟨y, List.mem_filter.2 ⟨hy, by simpa using ha⟩, rfl⟩
 refine ⟨h.nx, Nat.le_trans (List.length_filter_le _ _) h.len, h.pw.sublist List.filter_sublist, fun y hy => h.id y (hm y hy).1, hback 1 (Ne.symm h1) h.root, fun y hy => h.kd y (hm y hy).1, fun y hy => h.dir y (hm y hy).1, ?_, ?_, fun y hy => h.s y (hm y hy).1⟩
 ·intro y hy e he
  have h2 := h.es y (hm y hy).1 e he
  exact ⟨h2.1, hback _ (links_some h0 y (hm y hy).1 e he) h2.2⟩
 ·intro y hy
  obtain ⟨h2, h3⟩ := hm y hy
  have h4 := h.ln y h2
  have h5 := hD y h2 h3
  show (linksN (V.xs.filter _) y.id : Int) <= y.ln + 0 /\ _
  rw [hf]
  omega
end

end Go.Proofs.YtjjniapamdleoaaGreatDoor
