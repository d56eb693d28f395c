/- Changes of a directory in plain terms: an entry is put in, taken away, spelled anew. -/
import Derived.Test.YtjjniapamdleoaaGreatDoorRCLook
namespace Go.Proofs.YtjjniapamdleoaaGreatDoor
open Go Go.RowKit

/-- The place of a new entry among those of its kind. -/
def ixL (h : Int) (ds : List EntD) : Int := ds.foldl (fun k x => if x.h = h /\ x.i = k then k + 1 else k) 0
theorem ixL_nil (h : Int) : ixL h [] = 0 := rfl
theorem ixL_snoc (h : Int) (ds : List EntD) (x : EntD) : ixL h (ds ++ [x]) = if x.h = h /\ x.i = ixL h ds then ixL h ds + 1 else ixL h ds := by
 unfold ixL; rw [List.foldl_append]; rfl
theorem beh_trans {a b c : EntD} (h : behB c b.h b.i = true) (h' : behB b a.h a.i = true) : behB c a.h a.i = true := by
 unfold behB at *
 simp only [Bool.or_eq_true, Bool.and_eq_true, decide_eq_true_eq] at *
 omega
theorem dir_beh {ds : List EntD} (h : dirOkB ds = true) : ∀ (d i : Nat) (hj : i + 1 + d < ds.length), behB ds[i + 1 + d] (ds[i]'(by omega)).h (ds[i]'(by omega)).i = true
 | 0, i, hj => by
  have := ((dirOkB_iff.1 h).2 (i + 1) hj).2.1 (by omega)
  simpa using this
 | d + 1, i, hj => by
  have h1 := ((dirOkB_iff.1 h).2 (i + 1 + (d + 1)) hj).2.1 (by omega)
  have h2 := dir_beh h d i (by omega)
  refine beh_trans (b := ds[i + 1 + d]'(by omega)) ?_ h2
  simpa using h1
theorem dir_less {ds : List EntD} (h : dirOkB ds = true) {i j : Nat} (hij : i < j) (hj : j < ds.length) : behB ds[j] (ds[i]'(by omega)).h (ds[i]'(by omega)).i = true := by
 have := dir_beh h (j - i - 1) i (by omega)
 simpa [show i + 1 + (j - i - 1) = j by omega] using this
theorem ixL_take {ds : List EntD} (hd : dirOkB ds = true) (h : Int) : ∀ j, j <= ds.length -> (0 <= ixL h (ds.take j) /\ ixL h (ds.take j) <= j) /\ (∀ m, 0 <= m -> m < ixL h (ds.take j) -> ∃ a, ∃ ha : a < ds.length, a < j /\ ds[a].h = h /\ ds[a].i = m) /\
  ∀ a (ha : a < ds.length), a < j -> ¬ (ds[a].h = h /\ ds[a].i = ixL h (ds.take j))
 | 0, _ => ⟨by simp [ixL_nil], fun m h0 h1 => by simp [ixL_nil] at h1; omega, fun a _ h => by omega⟩
 | j + 1, hj => by
  obtain ⟨⟨h0, h1⟩, h2, h3⟩ := ixL_take hd h j (by omega)
  have hx : j < ds.length := by omega
  rw [List.take_succ_eq_append_getElem hx, ixL_snoc]
  by_cases hc : ds[j].h = h /\ ds[j].i = ixL h (ds.take j)
  ·rw [if_pos hc]
   refine ⟨⟨by omega, by omega⟩, fun m m0 m1 => ?_, fun a ha hal hb => ?_⟩
   ·by_cases hm : m < ixL h (ds.take j)
    ·obtain ⟨a, ha, hl, hh⟩ := h2 m m0 hm
     exact ⟨a, ha, by omega, hh⟩
    ·exact ⟨j, hx, by omega, hc.1, by omega⟩
   ·by_cases haj : a = j
    ·subst haj; omega
    ·have hl := dir_less hd (show a < j by omega) hx
     unfold behB at hl
     simp only [Bool.or_eq_true, Bool.and_eq_true, decide_eq_true_eq] at hl
     omega
  ·rw [if_neg hc]
   refine ⟨⟨h0, by omega⟩, fun m m0 m1 => ?_, fun a ha hal hb => ?_⟩
   ·obtain ⟨a, ha, hl, hh⟩ := h2 m m0 m1
    exact ⟨a, ha, by omega, hh⟩
   ·by_cases haj : a = j
    ·subst haj; exact hc hb
    ·exact h3 a ha (by omega) hb
def isPl (h k : Int) (x : EntD) : Bool := decide (x.h = h) && decide (x.i = k)
theorem ixL_any {ds : List EntD} (hd : dirOkB ds = true) (h k : Int) (h0 : 0 <= k) (hk : k <= ixL h ds) : ds.any (isPl h k) = decide (k < ixL h ds) := by
 obtain ⟨_, h2, h3⟩ := ixL_take hd h ds.length (Nat.le_refl _)
 rw [List.take_length] at h2 h3
 by_cases hlt : k < ixL h ds
 ·obtain ⟨a, ha, _, e1, e2⟩ := h2 k h0 hlt
  rw [decide_eq_true hlt]
  exact List.any_eq_true.2 ⟨_, List.getElem_mem ha, by simp [isPl, e1, e2]⟩
 ·rw [decide_eq_false hlt]
  rw [List.any_eq_false]
  intro x hx hp
  obtain ⟨a, ha, rfl⟩ := List.getElem_of_mem hx
  simp only [isPl, Bool.and_eq_true, decide_eq_true_eq] at hp
  exact h3 a ha ha ⟨hp.1, by omega⟩
theorem ixL_bd {ds : List EntD} (hd : dirOkB ds = true) (h : Int) : 0 <= ixL h ds /\ ixL h ds <= ds.length := by
 have := (ixL_take hd h ds.length (Nat.le_refl _)).1
 rwa [List.take_length] at this
theorem ixL_le (h : Int) (ds : List EntD) : ∀ j, j <= ds.length -> 0 <= ixL h (ds.take j) /\ ixL h (ds.take j) <= j
 | 0, _ => by simp [ixL_nil]
 | j + 1, hj => by
  have := ixL_le h ds j (by omega)
  rw [List.take_succ_eq_append_getElem (show j < ds.length by omega), ixL_snoc]
  split <;> omega

/-- A new entry where it belongs. -/
def insL (e : EntD) (ds : List EntD) : List EntD := ds.takeWhile (fun x => behB e x.h x.i) ++ e :: ds.dropWhile (fun x => behB e x.h x.i)
theorem insL_len (e : EntD) (ds : List EntD) : (insL e ds).length = ds.length + 1 := by
 unfold insL
 have := congrArg List.length (List.takeWhile_append_dropWhile (p := fun x : EntD => behB e x.h x.i) (l := ds))
 simp only [List.length_append, List.length_cons] at this ⊢
 omega
theorem insL_mem {e x : EntD} {ds : List EntD} (h : x ∈ insL e ds) : x = e ∨ x ∈ ds := by
 unfold insL at h
 simp only [List.mem_append, List.mem_cons] at h
 rcases h with h | h | h
 ·exact .inr ((List.takeWhile_prefix _).sublist.subset h)
 ·exact .inl h
 ·exact .inr ((List.dropWhile_suffix _).sublist.subset h)
theorem tw_at {p : EntD -> Bool} : ∀ {ds : List EntD} {k : Nat}, k <= ds.length -> (∀ x ∈ ds.take k, p x = true) -> (∀ h : k < ds.length, p ds[k] = false) -> ds.takeWhile p = ds.take k /\ ds.dropWhile p = ds.drop k
 | ds, 0, _, _, h => by
  rcases ds with _ | ⟨x, r⟩
  ·simp
  ·have := h (by simp)
   simp only [List.getElem_cons_zero] at this
   simp [this]
 | [], k + 1, hk, _, _ => by simp at hk
 | x :: r, k + 1, hk, ha, h => by
  have hx : p x = true := ha x (by simp)
  have ih := tw_at (p := p) (ds := r) (k := k) (by simpa using hk) (fun y hy => ha y (by simp [hy])) (fun hh => by have := h (by simpa using hh); simpa using this)
  simp [hx, ih]
theorem insL_at {e : EntD} {ds : List EntD} {k : Nat} (hk : k <= ds.length) (ha : ∀ x ∈ ds.take k, behB e x.h x.i = true) (he : ∀ h : k < ds.length, behB e ds[k].h ds[k].i = false) : insL e ds = ds.take k ++ e :: ds.drop k := by
 obtain ⟨h1, h2⟩ := tw_at (p := fun x : EntD => behB e x.h x.i) hk ha he
 unfold insL
 rw [h1, h2]
/-- As far as it is put in behind some entries. -/
def stL (e : EntD) (l : List EntD) : List EntD × Bool := if l.all (fun x => behB e x.h x.i) = true then (l, false) else (insL e l, true)
theorem stL_nil (e : EntD) : stL e [] = ([], false) := rfl
theorem all_snoc {p : EntD -> Bool} (l : List EntD) (x : EntD) : (l ++ [x]).all p = (l.all p && p x) := by simp
theorem stL_hold {e x : EntD} {l o : List EntD} (h : stL e l = (o, false)) (hx : behB e x.h x.i = true) : stL e (l ++ [x]) = (o ++ [x], false) := by
 unfold stL at h ⊢
 split at h
 ·rename_i ha
  injection h with h1 _
  subst h1
  rw [if_pos (by rw [all_snoc, ha, hx]; rfl)]
 ·injection h with _ h2; cases h2
theorem stL_put {e x : EntD} {l o : List EntD} (h : stL e l = (o, false)) (hx : behB e x.h x.i = false) : stL e (l ++ [x]) = (o ++ [e] ++ [x], true) := by
 unfold stL at h ⊢
 split at h
 ·rename_i ha
  injection h with h1 _
  subst h1
  rw [if_neg (by rw [all_snoc, hx]; simp)]
  congr 1
  rw [insL_at (k := l.length) (by simp) (by intro y hy; simp at hy; exact List.all_eq_true.1 ha y hy) (by intro _; simpa using hx)]
  simp
 ·injection h with _ h2; cases h2
theorem all_first {p : EntD -> Bool} : ∀ {l : List EntD}, ¬ (l.all p = true) -> ∃ k, ∃ hk : k < l.length, (∀ y ∈ l.take k, p y = true) /\ p l[k] = false
 | [], h => absurd rfl h
 | x :: r, h => by
  rcases hx : p x with _ | _
  ·exact ⟨0, by simp, by simp, by simpa using hx⟩
  ·obtain ⟨k, hk, h1, h2⟩ := all_first (p := p) (l := r) (fun hr => h (by rw [List.all_cons, hx, hr]; rfl))
   refine ⟨k + 1, by simpa using hk, fun y hy => ?_, by simpa using h2⟩
   rw [List.take_succ_cons, List.mem_cons] at hy
   rcases hy with rfl | hy
   ·exact hx
   ·exact h1 y hy
theorem stL_on {e x : EntD} {l o : List EntD} (h : stL e l = (o, true)) : stL e (l ++ [x]) = (o ++ [x], true) := by
 unfold stL at h ⊢
 split at h
 ·injection h with _ h2; cases h2
 ·rename_i ha
  injection h with h1 _
  subst h1
  rw [if_neg (by rw [all_snoc]; simp [ha])]
  congr 1
  have hne := all_first ha
  obtain ⟨k, hk, h1, h2⟩ := hne
  rw [insL_at (k := k) (by omega) h1 (fun _ => h2), insL_at (k := k) (ds := l ++ [x]) (by simp; omega) (by rw [List.take_append_of_le_length (by omega)]; exact h1) (by intro hh; rw [List.getElem_append_left hk]; exact h2)]
  rw [List.take_append_of_le_length (by omega), List.drop_append_of_le_length (by omega)]
  simp
theorem stL_end1 {e : EntD} {l o : List EntD} (h : stL e l = (o, false)) : insL e l = o ++ [e] := by
 unfold stL at h
 split at h
 ·rename_i ha
  injection h with h1 _
  subst h1
  rw [insL_at (k := l.length) (by omega) (by intro y hy; simp at hy; exact List.all_eq_true.1 ha y hy) (by intro hh; omega)]
  simp
 ·injection h with _ h2; cases h2
theorem stL_end2 {e : EntD} {l o : List EntD} (h : stL e l = (o, true)) : insL e l = o := by
 unfold stL at h
 split at h
 ·injection h with _ h2; cases h2
 ·injection h with h1 _
theorem stL_len {e : EntD} {l o : List EntD} {b : Bool} (h : stL e l = (o, b)) : o.length <= l.length + 1 /\ ∀ x ∈ o, x = e ∨ x ∈ l := by
 unfold stL at h
 split at h
 ·injection h with h1 _; subst h1; exact ⟨by omega, fun x hx => .inr hx⟩
 ·injection h with h1 _; subst h1; exact ⟨Nat.le_of_eq (insL_len _ _), fun x hx => insL_mem hx⟩
theorem beh_less2 {e x : EntD} : behB e x.h x.i = lessB x e.h e.i := by
 unfold behB lessB
 rw [Bool.eq_iff_iff]
 simp only [Bool.or_eq_true, Bool.and_eq_true, decide_eq_true_eq]
 omega

noncomputable def isN (s : ByteArray) (e : EntD) : Bool := alikeB e.s s
noncomputable def newE (ds : List EntD) (s : ByteArray) (id : Int) : EntD := ⟨hashI s, ixL (hashI s) ds, s, id⟩
noncomputable def addP (ds : List EntD) (s : ByteArray) (id : Int) : List EntD × Bool := open Classical in
 if dirOkB ds = true then (if nameOkB s = true /\ ds.find? (isN s) = none /\ inI id 1 100000 = true /\ ds.length ≠ 12 then (insL (newE ds s id) ds, true) else (ds, false)) else ([], false)
theorem addP_no {ds : List EntD} {s : ByteArray} {id : Int} (h : dirOkB ds = true) (h2 : ¬ (nameOkB s = true /\ ds.find? (isN s) = none /\ inI id 1 100000 = true /\ ds.length ≠ 12)) : addP ds s id = (ds, false) := by
 unfold addP; rw [if_pos h, if_neg h2]
theorem addP_yes {ds : List EntD} {s : ByteArray} {id : Int} (h : dirOkB ds = true) (h2 : nameOkB s = true /\ ds.find? (isN s) = none /\ inI id 1 100000 = true /\ ds.length ≠ 12) : addP ds s id = (insL (newE ds s id) ds, true) := by
 unfold addP; rw [if_pos h, if_pos h2]
noncomputable def dropP (ds : List EntD) (s : ByteArray) : List EntD × Bool := open Classical in
 if dirOkB ds = true then (if ds.find? (isN s) = none then (ds, false) else (ds.take (ds.findIdx (isN s)) ++ ds.drop (ds.findIdx (isN s) + 1), true)) else ([], false)
theorem dropP_no {ds : List EntD} {s : ByteArray} (h : dirOkB ds = true) (h2 : ds.find? (isN s) = none) : dropP ds s = (ds, false) := by unfold dropP; rw [if_pos h, if_pos h2]
theorem idx_at {ds : List EntD} {p : EntD -> Bool} (h : dirOkB ds = true) {k : Nat} (hk : k < ds.length) (hf : ds.find? p = some ds[k]) : ds.findIdx p = k := by
 have hp : p ds[k] = true := List.find?_some hf
 have hlt : ds.findIdx p < ds.length := List.findIdx_lt_length_of_exists ⟨ds[k], List.getElem_mem hk, hp⟩
 have h2 : ds.find? p = some (ds[ds.findIdx p]'hlt) := by
  have := List.findIdx_eq hlt |>.1 rfl
  rw [List.find?_eq_some_iff_getElem]
  exact ⟨this.1, _, hlt, rfl, fun j hj => by have := this.2 j hj; simpa using this⟩
 rw [h2] at hf
 have he : ds[ds.findIdx p]'hlt = ds[k] := Option.some.inj hf
 rcases Nat.lt_trichotomy (ds.findIdx p) k with hl | hl | hl
 ·exact absurd (congrArg (fun e => keyB e.s) he) (((dirOkB_iff.1 h).2 k hk).2.2 _ hl)
 ·exact hl
 ·exact absurd (congrArg (fun e => keyB e.s) he).symm (((dirOkB_iff.1 h).2 _ hlt).2.2 k hl)
theorem dropP_yes {ds : List EntD} {s : ByteArray} {k : Nat} (h : dirOkB ds = true) (hk : k < ds.length) (hf : ds.find? (isN s) = some ds[k]) : dropP ds s = (ds.take k ++ ds.drop (k + 1), true) := by
 unfold dropP; rw [if_pos h, if_neg (by rw [hf]; simp), idx_at h hk hf]

end Go.Proofs.YtjjniapamdleoaaGreatDoor
