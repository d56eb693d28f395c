/- What each call makes of a volume of one's own stays right: plain Lean. -/
import Derived.Test.YtjjniapamdleoaaGreatDoorRSVolQ
namespace Go.Proofs.YtjjniapamdleoaaGreatDoor
open Go Go.RowKit

/-- Another row of entries for an inode. -/
def ptE (xs : List InoD) (k : Nat) (es : List EntD) : List InoD := match xs[k]? with | some x => xs.set k ⟨x.id, x.kd, x.ln, x.s, es⟩ | none => xs
/-- Other links for an inode. -/
def ptL (xs : List InoD) (k : Nat) (ln : Int) : List InoD := match xs[k]? with | some x => xs.set k ⟨x.id, x.kd, ln, x.s, x.es⟩ | none => xs
/-- Other data for an inode. -/
def ptS (xs : List InoD) (k : Nat) (s : ByteArray) : List InoD := match xs[k]? with | some x => xs.set k ⟨x.id, x.kd, x.ln, s, x.es⟩ | none => xs
section
variable {xs : List InoD} {k : Nat} {es : List EntD} {ln : Int} {s : ByteArray}
theorem putE_at (hk : k < xs.length) : ptE xs k es = xs.set k ⟨xs[k].id, xs[k].kd, xs[k].ln, xs[k].s, es⟩ := by unfold ptE; rw [List.getElem?_eq_getElem hk]
theorem putL_at (hk : k < xs.length) : ptL xs k ln = xs.set k ⟨xs[k].id, xs[k].kd, ln, xs[k].s, xs[k].es⟩ := by unfold ptL; rw [List.getElem?_eq_getElem hk]
theorem putS_at (hk : k < xs.length) : ptS xs k s = xs.set k ⟨xs[k].id, xs[k].kd, xs[k].ln, s, xs[k].es⟩ := by unfold ptS; rw [List.getElem?_eq_getElem hk]
theorem putE_len : (ptE xs k es).length = xs.length := by unfold ptE; split <;> simp
theorem putL_len : (ptL xs k ln).length = xs.length := by unfold ptL; split <;> simp
theorem putS_len : (ptS xs k s).length = xs.length := by unfold ptS; split <;> simp
theorem putE_ids (hk : k < xs.length) : (ptE xs k es).map (·.id) = xs.map (·.id) := by rw [putE_at hk]; exact ids_set hk rfl
theorem putL_ids (hk : k < xs.length) : (ptL xs k ln).map (·.id) = xs.map (·.id) := by rw [putL_at hk]; exact ids_set hk rfl
theorem putE_plc (hk : k < xs.length) (a : Int) : plc (ptE xs k es) a = plc xs a := plc_ids (putE_ids hk) a
theorem putL_plc (hk : k < xs.length) (a : Int) : plc (ptL xs k ln) a = plc xs a := plc_ids (putL_ids hk) a
theorem putE_same (hk : k < xs.length) (h : k < (ptE xs k es).length) : (ptE xs k es)[k] = ⟨xs[k].id, xs[k].kd, xs[k].ln, xs[k].s, es⟩ := by simp [putE_at hk]
theorem putE_ne (hk : k < xs.length) {j : Nat} (hj : j ≠ k) (h : j < (ptE xs k es).length) : (ptE xs k es)[j] = xs[j]'(by rw [putE_len] at h; exact h) := by simp [putE_at hk, List.getElem_set_ne (Ne.symm hj)]
theorem putL_same (hk : k < xs.length) (h : k < (ptL xs k ln).length) : (ptL xs k ln)[k] = ⟨xs[k].id, xs[k].kd, ln, xs[k].s, xs[k].es⟩ := by simp [putL_at hk]
theorem putL_ne (hk : k < xs.length) {j : Nat} (hj : j ≠ k) (h : j < (ptL xs k ln).length) : (ptL xs k ln)[j] = xs[j]'(by rw [putL_len] at h; exact h) := by simp [putL_at hk, List.getElem_set_ne (Ne.symm hj)]
end
/-- A name found stays found where another one is spelled anew. -/
theorem spell_find {es : List EntD} (hd : dirOkB es = true) {s t : ByteArray} {i : Int} (hi : inI i 1 100000 = true) {j m : Nat} (hj : j < es.length) (hm : m < es.length) (hf : es.find? (isN s) = some es[j]) (hg : es.find? (isN t) = some es[m]) (hne : j ≠ m) :
  ∃ hm' : m < (spellP es s i).1.length, (spellP es s i).1.find? (isN t) = some ((spellP es s i).1[m]) /\ (spellP es s i).1[m].d = es[m].d := by
 have hl : (spellP es s i).1 = es.set j ⟨es[j].h, es[j].i, s, i⟩ := by
  rw [spellP_yes hd hj hf hi, List.set_eq_take_append_cons_drop, if_pos hj, List.append_assoc]; rfl
 rw [hl]
 refine ⟨by simpa using hm, ?_, by simp [List.getElem_set_ne hne]⟩
 obtain ⟨s1, s2, s3⟩ := isN_key (List.find?_some hf)
 have hix : ∀ (q : Nat) (hq : q < es.length), isN t ((es.set j ⟨es[j].h, es[j].i, s, i⟩)[q]'(by simpa using hq)) = isN t es[q] := by
  intro q hq
  rw [List.getElem_set]
  split
  ·rename_i hjq
   subst hjq
   unfold isN alikeB
   rw [s1, s2, s3]
  ·rfl
 obtain ⟨hp, q, hq, he, hno⟩ := List.find?_eq_some_iff_getElem.1 hg
 have hqm : q = m := by
  have hP := dirOkB_iff.1 hd
  rcases Nat.lt_trichotomy q m with h | h | h
  ·exact absurd (congrArg (fun e => keyB e.s) he) ((hP.2 m hm).2.2 q h)
  ·exact h
  ·exact absurd (congrArg (fun e => keyB e.s) he).symm ((hP.2 q hq).2.2 m h)
 subst hqm
 rw [List.find?_eq_some_iff_getElem]
 refine ⟨by rw [hix q hq]; exact hp, q, by simpa using hq, rfl, fun x hx => ?_⟩
 rw [hix x (by omega)]
 exact hno x hx
section
variable {K : Int} {D D' : Int -> Int} {V : VolD} {k : Nat}
theorem QG.putE (h : QG K D V) (hk : k < V.xs.length) (hkd : V.xs[k].kd = 2) {es' : List EntD} (hd : dirOkB es' = true) (hes : ∀ e ∈ es', e.d ≠ 1 /\ ∃ y ∈ V.xs, y.id = e.d) (hD : ∀ a, (cntE es' a : Int) + D a <= cntE V.xs[k].es a + D' a) : QG K D' ⟨V.nx, ptE V.xs k es'⟩ := by
 have hkm : V.xs[k] ∈ V.xs := List.getElem_mem hk
 rw [putE_at hk]
 refine h.set hk (Int.le_refl _) (.inl hkd) hd hes (h.s _ hkm) (h.ln _ hkm).2 fun x _ => ?_
 have := hD x.id
 split <;> omega
theorem QG.kd2 (h : QG K D V) (hk : k < V.xs.length) {j : Nat} (hj : j < V.xs[k].es.length) : V.xs[k].kd = 2 := by
 rcases h.kd _ (List.getElem_mem hk) with h1 | h1
 ·rw [h1.2] at hj; simp at hj
 ·exact h1
theorem QG.add (h : QG K D V) (hk : k < V.xs.length) (hkd : V.xs[k].kd = 2) (s : ByteArray) {i : Int} (h1 : i ≠ 1) (hex : ∃ y ∈ V.xs, y.id = i) : QG K (fun a => D a + oneI a i) ⟨V.nx, ptE V.xs k (addP V.xs[k].es s i).1⟩ := by
 have hkm : V.xs[k] ∈ V.xs := List.getElem_mem hk
 have hd := h.dir _ hkm
 refine h.putE hk hkd (addP_ok hd s i) (fun e he => ?_) fun a => ?_
 ·rcases (addP_cnt hd s i 0).2 e he with h2 | h2
  ·exact h.es _ hkm e h2
  ·rw [h2]; exact ⟨h1, hex⟩
 ·have := (addP_cnt hd s i a).1
  omega
theorem QG.drop (h : QG K D V) (hk : k < V.xs.length) {s : ByteArray} {j : Nat} (hj : j < V.xs[k].es.length) (hf : V.xs[k].es.find? (isN s) = some V.xs[k].es[j]) : QG K (fun a => D a - oneI a V.xs[k].es[j].d) ⟨V.nx, ptE V.xs k (dropP V.xs[k].es s).1⟩ := by
 have hkm : V.xs[k] ∈ V.xs := List.getElem_mem hk
 have hd := h.dir _ hkm
 refine h.putE hk (h.kd2 hk hj) (dropP_ok hd s) (fun e he => h.es _ hkm e ((dropP_cnt hd hj hf 0).2 e he)) fun a => ?_
 have := (dropP_cnt hd hj hf a).1
 omega
theorem QG.spell (h : QG K D V) (hk : k < V.xs.length) {s : ByteArray} {i : Int} (hi : inI i 1 100000 = true) (h1 : i ≠ 1) (hex : ∃ y ∈ V.xs, y.id = i) {j : Nat} (hj : j < V.xs[k].es.length) (hf : V.xs[k].es.find? (isN s) = some V.xs[k].es[j]) :
  QG K (fun a => D a - oneI a V.xs[k].es[j].d + oneI a i) ⟨V.nx, ptE V.xs k (spellP V.xs[k].es s i).1⟩ := by
 have hkm : V.xs[k] ∈ V.xs := List.getElem_mem hk
 have hd := h.dir _ hkm
 refine h.putE hk (h.kd2 hk hj) (spellP_ok hd s i) (fun e he => ?_) fun a => ?_
 ·rcases (spellP_cnt hd hi hj hf 0).2 e he with h2 | h2
  ·exact h.es _ hkm e h2
  ·rw [h2]; exact ⟨h1, hex⟩
 ·have := (spellP_cnt hd hi hj hf a).1
  omega
theorem QG.putL (h : QG K D V) (hk : k < V.xs.length) {ln' K' : Int} (hK : K <= K') (hl : ln' <= K') : QG K' (fun a => D a + (V.xs[k].ln - ln') * oneI a V.xs[k].id) ⟨V.nx, ptL V.xs k ln'⟩ := by
 have hkm : V.xs[k] ∈ V.xs := List.getElem_mem hk
 rw [putL_at hk]
 refine h.set hk hK (by rcases h.kd _ hkm with h1 | h1; exact .inr h1.2; exact .inl h1) (h.dir _ hkm) (h.es _ hkm) (h.s _ hkm) hl fun x _ => ?_
 unfold oneI
 split <;> simp <;> omega
theorem QG.putS (h : QG K D V) (hk : k < V.xs.length) {s : ByteArray} (hs : s.size <= 20) : QG K D ⟨V.nx, ptS V.xs k s⟩ := by
 have hkm : V.xs[k] ∈ V.xs := List.getElem_mem hk
 rw [putS_at hk]
 refine h.set hk (Int.le_refl _) (by rcases h.kd _ hkm with h1 | h1; exact .inr h1.2; exact .inl h1) (h.dir _ hkm) (h.es _ hkm) hs (h.ln _ hkm).2 fun x _ => ?_
 split <;> omega
/-- An inode has one link less; it goes where it has none. -/
def lessV (xs : List InoD) (k : Nat) (a : Int) (ln : Int) : List InoD := if ln = 0 then (ptL xs k ln).filter fun y => y.id != a else ptL xs k ln
theorem QG.less (h : QG K D V) (hk : k < V.xs.length) (h1 : V.xs[k].id ≠ 1) (hes : V.xs[k].es = []) (hD0 : D V.xs[k].id <= -1) (hD : ∀ y ∈ V.xs, y.id ≠ V.xs[k].id -> D y.id <= 0) : QV K ⟨V.nx, lessV V.xs k V.xs[k].id (V.xs[k].ln - 1)⟩ := by
 have hkm : V.xs[k] ∈ V.xs := List.getElem_mem hk
 have h2 := (h.ln _ hkm).2
 have hL := h.putL hk (ln' := V.xs[k].ln - 1) (Int.le_refl K) (by omega)
 have hid : ∀ y ∈ ptL V.xs k (V.xs[k].ln - 1), ∃ z ∈ V.xs, z.id = y.id := fun y hy => by
  have : y.id ∈ (ptL V.xs k (V.xs[k].ln - 1)).map (·.id) := List.mem_map_of_mem hy
  rw [putL_ids hk] at this
  obtain ⟨z, hz, h3⟩ := List.mem_map.1 this
  exact ⟨z, hz, h3⟩
 have hDy : ∀ y ∈ ptL V.xs k (V.xs[k].ln - 1), D y.id + (V.xs[k].ln - (V.xs[k].ln - 1)) * oneI y.id V.xs[k].id <= 0 := fun y hy => by
  obtain ⟨z, hz, h3⟩ := hid y hy
  by_cases he : y.id = V.xs[k].id
  ·rw [he, oneI_self]; omega
  ·rw [oneI_ne he]; have := hD z hz (by rw [h3]; exact he); rw [h3] at this; omega
 unfold lessV
 split
 ·rename_i h0
  have hk' : k < (ptL V.xs k (V.xs[k].ln - 1)).length := by rw [putL_len]; exact hk
  have hsame := putL_same (ln := V.xs[k].ln - 1) hk hk'
  have hm : (ptL V.xs k (V.xs[k].ln - 1))[k] ∈ ptL V.xs k (V.xs[k].ln - 1) := List.getElem_mem hk'
  have hg := QG.gone hL (x := (ptL V.xs k (V.xs[k].ln - 1))[k]) hm (by rw [hsame]; exact h1) (by rw [hsame]; exact hes) (by
   have h3 := (hL.ln _ hm).1
   have h4 := hDy _ hm
   have h5 : (ptL V.xs k (V.xs[k].ln - 1))[k].ln = 0 := by rw [hsame]; exact h0
   have h6 : (linksN (ptL V.xs k (V.xs[k].ln - 1)) (ptL V.xs k (V.xs[k].ln - 1))[k].id : Int) <= 0 := by
    refine Int.le_trans h3 ?_
    rw [h5]
    omega
   omega) (fun y hy _ => hDy y hy)
  have hi : (ptL V.xs k (V.xs[k].ln - 1))[k].id = V.xs[k].id := by rw [hsame]
  rw [hi] at hg
  exact hg
 ·exact hL.weak (Int.le_refl _) hDy
/-! The calls. -/
theorem QV.make (h : QV K V) (hn : V.xs.length < 16) (hm : V.nx < 100000) {kd : Int} (hkd : kd = 1 ∨ kd = 2) (hK : 1 <= K) (hk : k < V.xs.length) (hk2 : V.xs[k].kd = 2) (s : ByteArray) :
  QV K ⟨V.nx + 1, ptE (V.xs ++ [⟨V.nx, kd, 1, ⟨#[]⟩, []⟩]) k (addP V.xs[k].es s V.nx).1⟩ := by
 have h1 := QG.snoc h hn hm hkd hK
 have hk' : k < (V.xs ++ [(⟨V.nx, kd, 1, ⟨#[]⟩, []⟩ : InoD)]).length := by simp; omega
 have he : (V.xs ++ [(⟨V.nx, kd, 1, ⟨#[]⟩, []⟩ : InoD)])[k] = V.xs[k] := List.getElem_append_left hk
 have h2 := h1.add (k := k) hk' (by show (V.xs ++ [(⟨V.nx, kd, 1, ⟨#[]⟩, []⟩ : InoD)])[k].kd = 2; rw [he]; exact hk2) s (i := V.nx) (by have := h.nx; omega) ⟨_, List.mem_append_right _ (List.mem_singleton.2 rfl), rfl⟩
 have h3 := h2.weak (D' := fun _ => 0) (Int.le_refl K) (fun x _ => by show - oneI x.id V.nx + oneI x.id V.nx <= 0; omega)
 have h4 : QG K (fun _ => 0) ⟨V.nx + 1, ptE (V.xs ++ [⟨V.nx, kd, 1, ⟨#[]⟩, []⟩]) k (addP (V.xs ++ [(⟨V.nx, kd, 1, ⟨#[]⟩, []⟩ : InoD)])[k].es s V.nx).1⟩ := h3
 rw [he] at h4
 exact h4
theorem QV.mono (h : QV K V) {K' : Int} (hK : K <= K') : QV K' V := QG.weak h hK fun _ _ => Int.le_refl _
theorem QV.unlink (h : QV K V) (hk : k < V.xs.length) {s : ByteArray} {j : Nat} (hj : j < V.xs[k].es.length) (hf : V.xs[k].es.find? (isN s) = some V.xs[k].es[j]) {m : Nat} (hm : m < V.xs.length) (hx : V.xs[m].id = V.xs[k].es[j].d) (hes : V.xs[m].es = []) :
  QV K ⟨V.nx, lessV (ptE V.xs k (dropP V.xs[k].es s).1) m V.xs[m].id (V.xs[m].ln - 1)⟩ := by
 have h1 := QG.drop h hk hj hf
 have hmk : m ≠ k := by rintro rfl; rw [hes] at hj; simp at hj
 have hm' : m < (ptE V.xs k (dropP V.xs[k].es s).1).length := by rw [putE_len]; exact hm
 have he := putE_ne (es := (dropP V.xs[k].es s).1) hk hmk hm'
 have h2 := h1.less (k := m) hm' (by show (ptE V.xs k (dropP V.xs[k].es s).1)[m].id ≠ 1; rw [he, hx]; exact (h.es _ (List.getElem_mem hk) _ (List.getElem_mem hj)).1) (by show (ptE V.xs k (dropP V.xs[k].es s).1)[m].es = []; rw [he]; exact hes)
  (by show (0 : Int) - oneI (ptE V.xs k (dropP V.xs[k].es s).1)[m].id V.xs[k].es[j].d <= -1; rw [he, hx, oneI_self]; omega) (fun y _ _ => by show (0 : Int) - oneI y.id V.xs[k].es[j].d <= 0; have := (oneI_bd y.id V.xs[k].es[j].d).1; omega)
 have h3 : QV K ⟨V.nx, lessV (ptE V.xs k (dropP V.xs[k].es s).1) m (ptE V.xs k (dropP V.xs[k].es s).1)[m].id ((ptE V.xs k (dropP V.xs[k].es s).1)[m].ln - 1)⟩ := h2
 rw [he] at h3
 exact h3
theorem QV.link (h : QV K V) {m : Nat} (hm : m < V.xs.length) (h1 : V.xs[m].id ≠ 1) (hk : k < V.xs.length) (hk2 : V.xs[k].kd = 2) (s : ByteArray) :
  QV (K + 1) ⟨V.nx, ptE (ptL V.xs m (V.xs[m].ln + 1)) k (addP V.xs[k].es s V.xs[m].id).1⟩ := by
 have hl := (h.ln _ (List.getElem_mem hm)).2
 have h2 := QG.putL h hm (ln' := V.xs[m].ln + 1) (K' := K + 1) (by omega) (by omega)
 have hk' : k < (ptL V.xs m (V.xs[m].ln + 1)).length := by rw [putL_len]; exact hk
 have he : (ptL V.xs m (V.xs[m].ln + 1))[k].es = V.xs[k].es /\ (ptL V.xs m (V.xs[m].ln + 1))[k].kd = V.xs[k].kd := by
  by_cases hkm : k = m
  ·subst hkm; rw [putL_same hk hk']; exact ⟨rfl, rfl⟩
  ·rw [putL_ne hm hkm hk']; exact ⟨rfl, rfl⟩
 have hm' : m < (ptL V.xs m (V.xs[m].ln + 1)).length := by rw [putL_len]; exact hm
 have h3 := h2.add (k := k) hk' (by show (ptL V.xs m (V.xs[m].ln + 1))[k].kd = 2; rw [he.2]; exact hk2) s (i := V.xs[m].id) h1 ⟨_, List.getElem_mem hm', by show (ptL V.xs m (V.xs[m].ln + 1))[m].id = _; rw [putL_same hm hm']⟩
 have h4 := h3.weak (D' := fun _ => 0) (Int.le_refl _) (fun x _ => by show 0 + (V.xs[m].ln - (V.xs[m].ln + 1)) * oneI x.id V.xs[m].id + oneI x.id V.xs[m].id <= 0; rw [show V.xs[m].ln - (V.xs[m].ln + 1) = -1 by omega]; omega)
 have h5 : QV (K + 1) ⟨V.nx, ptE (ptL V.xs m (V.xs[m].ln + 1)) k (addP (ptL V.xs m (V.xs[m].ln + 1))[k].es s V.xs[m].id).1⟩ := h4
 rw [he.1] at h5
 exact h5
theorem QV.respell (h : QV K V) (hk : k < V.xs.length) {s : ByteArray} {j : Nat} (hj : j < V.xs[k].es.length) (hf : V.xs[k].es.find? (isN s) = some V.xs[k].es[j]) : QV K ⟨V.nx, ptE V.xs k (spellP V.xs[k].es s V.xs[k].es[j].d).1⟩ := by
 obtain ⟨h1, h2⟩ := h.es _ (List.getElem_mem hk) _ (List.getElem_mem hj)
 have hi : inI V.xs[k].es[j].d 1 100000 = true := by
  obtain ⟨y, hy, h3⟩ := h2
  have h4 := h.id y hy
  have h5 := h.nx
  rw [<- h3]
  exact inI_true.2 ⟨h4.1, by omega⟩
 exact (QG.spell h hk hi h1 h2 hj hf).weak (Int.le_refl _) fun x _ => by show (0 : Int) - oneI x.id V.xs[k].es[j].d + oneI x.id V.xs[k].es[j].d <= 0; omega
theorem QV.move (h : QV K V) (hk : k < V.xs.length) {s : ByteArray} {j : Nat} (hj : j < V.xs[k].es.length) (hf : V.xs[k].es.find? (isN s) = some V.xs[k].es[j]) {m : Nat} (hm : m < V.xs.length) (hm2 : V.xs[m].kd = 2) (t : ByteArray) :
  ∃ hm' : m < (ptE V.xs k (dropP V.xs[k].es s).1).length, QV K ⟨V.nx, ptE (ptE V.xs k (dropP V.xs[k].es s).1) m (addP (ptE V.xs k (dropP V.xs[k].es s).1)[m].es t V.xs[k].es[j].d).1⟩ := by
 have h1 := QG.drop h hk hj hf
 obtain ⟨h2, y, hy, h3⟩ := h.es _ (List.getElem_mem hk) _ (List.getElem_mem hj)
 have hm' : m < (ptE V.xs k (dropP V.xs[k].es s).1).length := by rw [putE_len]; exact hm
 refine ⟨hm', ?_⟩
 have hex : ∃ z ∈ ptE V.xs k (dropP V.xs[k].es s).1, z.id = V.xs[k].es[j].d := by
  have : y.id ∈ (ptE V.xs k (dropP V.xs[k].es s).1).map (·.id) := by rw [putE_ids hk]; exact List.mem_map_of_mem hy
  obtain ⟨z, hz, h4⟩ := List.mem_map.1 this
  exact ⟨z, hz, h4.trans h3⟩
 have hkd : (ptE V.xs k (dropP V.xs[k].es s).1)[m].kd = 2 := by
  by_cases hmk : m = k
  ·subst hmk; rw [putE_same hk hm']; exact hm2
  ·rw [putE_ne hk hmk hm']; exact hm2
 exact (h1.add (k := m) hm' hkd t h2 hex).weak (Int.le_refl _) fun x _ => by show (0 : Int) - oneI x.id V.xs[k].es[j].d + oneI x.id V.xs[k].es[j].d <= 0; omega
theorem QV.replace (h : QV K V) (hk : k < V.xs.length) {s : ByteArray} {j : Nat} (hj : j < V.xs[k].es.length) (hf : V.xs[k].es.find? (isN s) = some V.xs[k].es[j]) {m : Nat} (hm : m < V.xs.length) {t : ByteArray} {i : Nat} (hi : i < V.xs[m].es.length) (hg : V.xs[m].es.find? (isN t) = some V.xs[m].es[i])
  (hne : V.xs[m].es[i].d ≠ V.xs[k].es[j].d) {o : Nat} (ho : o < V.xs.length) (hoi : V.xs[o].id = V.xs[k].es[j].d) (hes : V.xs[o].es = []) :
  ∃ hm' : m < (ptE V.xs k (spellP V.xs[k].es s V.xs[m].es[i].d).1).length, QV K ⟨V.nx, lessV (ptE (ptE V.xs k (spellP V.xs[k].es s V.xs[m].es[i].d).1) m (dropP (ptE V.xs k (spellP V.xs[k].es s V.xs[m].es[i].d).1)[m].es t).1) o V.xs[o].id (V.xs[o].ln - 1)⟩ := by
 obtain ⟨h1, y, hy, h3⟩ := h.es _ (List.getElem_mem hm) _ (List.getElem_mem hi)
 have hin : inI V.xs[m].es[i].d 1 100000 = true := by
  have h4 := h.id y hy
  have h5 := h.nx
  rw [<- h3]
  exact inI_true.2 ⟨h4.1, by omega⟩
 have hs := QG.spell h hk hin h1 ⟨y, hy, h3⟩ hj hf
 obtain ⟨E, hE⟩ : ∃ E, (spellP V.xs[k].es s V.xs[m].es[i].d).1 = E := ⟨_, rfl⟩
 rw [hE] at hs
 rw [hE]
 have hm' : m < (ptE V.xs k E).length := by rw [putE_len]; exact hm
 have hok : o ≠ k := by rintro rfl; rw [hes] at hj; simp at hj
 have hom : o ≠ m := by rintro rfl; rw [hes] at hi; simp at hi
 refine ⟨hm', ?_⟩
 -- what is found in the place of the name that goes
 have hfind : ∃ (i' : Nat) (hi' : i' < (ptE V.xs k E)[m].es.length), (ptE V.xs k E)[m].es.find? (isN t) = some ((ptE V.xs k E)[m].es[i']) /\ (ptE V.xs k E)[m].es[i'].d = V.xs[m].es[i].d := by
  by_cases hmk : m = k
  ·subst hmk
   have hij : j ≠ i := by rintro rfl; exact hne rfl
   have hsame := putE_same (es := E) hk hm'
   obtain ⟨hi', g1, g2⟩ := spell_find (h.dir _ (List.getElem_mem hk)) hin hj hi hf hg hij
   simp only [hE] at hi' g1 g2
   refine ⟨i, ?_, ?_, ?_⟩
   ·rw [hsame]; exact hi'
   ·simp only [hsame]; exact g1
   ·simp only [hsame]; exact g2
  ·have hsame := putE_ne (es := E) hk hmk hm'
   refine ⟨i, ?_, ?_, ?_⟩
   ·rw [hsame]; exact hi
   ·simp only [hsame]; exact hg
   ·simp only [hsame]
 obtain ⟨i', hi', g1, g2⟩ := hfind
 have hd := hs.drop (k := m) hm' hi' g1
 obtain ⟨F, hF⟩ : ∃ F, (dropP (ptE V.xs k E)[m].es t).1 = F := ⟨_, rfl⟩
 have hd2 : QG K (fun a => 0 - oneI a V.xs[k].es[j].d + oneI a V.xs[m].es[i].d - oneI a V.xs[m].es[i].d) ⟨V.nx, ptE (ptE V.xs k E) m F⟩ := by
  have hd3 : QG K (fun a => 0 - oneI a V.xs[k].es[j].d + oneI a V.xs[m].es[i].d - oneI a (ptE V.xs k E)[m].es[i'].d) ⟨V.nx, ptE (ptE V.xs k E) m (dropP (ptE V.xs k E)[m].es t).1⟩ := hd
  rw [g2, hF] at hd3
  exact hd3
 rw [hF]
 have ho1 : o < (ptE V.xs k E).length := by rw [putE_len]; exact ho
 have ho2 : o < (ptE (ptE V.xs k E) m F).length := by rw [putE_len]; exact ho1
 have e1 := putE_ne (es := F) hm' hom ho2
 have e2 := putE_ne (es := E) hk hok ho1
 have e3 : (ptE (ptE V.xs k E) m F)[o] = V.xs[o] := e1.trans e2
 have hl := hd2.less (k := o) ho2 (by show (ptE (ptE V.xs k E) m F)[o].id ≠ 1; rw [e3, hoi]; exact (h.es _ (List.getElem_mem hk) _ (List.getElem_mem hj)).1) (by show (ptE (ptE V.xs k E) m F)[o].es = []; rw [e3]; exact hes)
  (by show 0 - oneI (ptE (ptE V.xs k E) m F)[o].id V.xs[k].es[j].d + oneI (ptE (ptE V.xs k E) m F)[o].id V.xs[m].es[i].d - oneI (ptE (ptE V.xs k E) m F)[o].id V.xs[m].es[i].d <= -1; rw [e3, hoi, oneI_self]; omega)
  (fun y _ _ => by show 0 - oneI y.id V.xs[k].es[j].d + oneI y.id V.xs[m].es[i].d - oneI y.id V.xs[m].es[i].d <= 0; have := (oneI_bd y.id V.xs[k].es[j].d).1; omega)
 have hl2 : QV K ⟨V.nx, lessV (ptE (ptE V.xs k E) m F) o (ptE (ptE V.xs k E) m F)[o].id ((ptE (ptE V.xs k E) m F)[o].ln - 1)⟩ := hl
 rw [e3] at hl2
 exact hl2
end

/-- A volume that is small. -/
def SmV (V : VolD) : Prop := V.xs.length <= 17 /\ ∀ x ∈ V.xs, x.es.length <= 13 /\ (∀ e ∈ x.es, e.s.size <= 25) /\ x.s.size <= 25
theorem sumQ_le {α : Type} (f : α -> Nat) (B : Nat) : ∀ (l : List α), (∀ x ∈ l, f x <= B) -> (l.map f).sum <= l.length * B
 | [], _ => by simp
 | a :: l, h => by
  have h1 := h a (List.mem_cons_self ..)
  have h2 := sumQ_le f B l (fun x hx => h x (List.mem_cons_of_mem _ hx))
  simp only [List.map_cons, List.sum_cons, List.length_cons, Nat.add_mul, Nat.one_mul]
  omega
theorem SmV.sz {V : VolD} (h : SmV V) : szV V <= 100000 := by
 have h1 : ∀ x ∈ V.xs, szI x <= 400 := fun x hx => by
  obtain ⟨h2, h3, h4⟩ := h.2 x hx
  have h5 := sumQ_le (fun e : EntD => e.s.size) 25 x.es h3
  have h6 : x.es.length * 25 <= 13 * 25 := Nat.mul_le_mul_right _ h2
  unfold szI szS
  omega
 have h2 := sumQ_le szI 400 V.xs h1
 have h3 : V.xs.length * 400 <= 17 * 400 := Nat.mul_le_mul_right _ h.1
 have h4 := h.1
 unfold szV szIs
 omega
theorem QV.sm {K : Int} {V : VolD} (h : QV K V) : SmV V := by
 refine ⟨by have := h.len; omega, fun x hx => ?_⟩
 have hd := h.dir x hx
 refine ⟨by have := (dirOk_pw.1 hd).1; omega, fun e he => ?_, by have := h.s x hx; omega⟩
 have h1 := dir_names hd e he
 unfold nameOkB at h1
 split at h1
 ·cases h1
 ·simp only [Bool.and_eq_true] at h1
  have := inI_true.1 h1.1.1.1
  omega

end Go.Proofs.YtjjniapamdleoaaGreatDoor
