/- Who goes through a directory while names come and go: plain. -/
import Derived.Test.YtjjniapamdleoaaGreatDoorRCCpE
import Derived.Test.YtjjniapamdleoaaGreatDoorRCListS
import Derived.Test.YtjjniapamdleoaaGreatDoorRCL6V
namespace Go.Proofs.YtjjniapamdleoaaGreatDoor
open Go Go.RowKit

/-! ### A volume of one directory and its files -/
def rootV (D : List EntD) : InoD := ⟨1, 2, 1, ⟨#[]⟩, D⟩
def fileV (i : Int) : InoD := ⟨i, 1, 1, ⟨#[]⟩, []⟩
/-- The volume is the first directory with files, each named once. -/
structure ScS (V : VolD) (D : List EntD) : Prop where
 qv : QV 1 V
 is : ∃ ids : List Int, V.xs = rootV D :: ids.map fileV /\ (D.map (·.d)).Perm ids
theorem ScS.zero : ScS vol0 [] := ⟨qv0 (by decide), [], rfl, List.Perm.refl _⟩
theorem allIds_files (ids : List Int) : allIds (ids.map fileV) = [] := by
 induction ids with
 | nil => rfl
 | cons i ids ih =>
  unfold allIds at ih ⊢
  rw [List.map_cons, List.flatMap_cons, ih]
  rfl
theorem allIds_root (D : List EntD) (ids : List Int) : allIds (rootV D :: ids.map fileV) = D.map (·.d) := by
 have h := allIds_files ids
 unfold allIds at h ⊢
 rw [List.flatMap_cons, h]
 simp [rootV]
theorem count_one : ∀ {l : List Int}, l.Nodup -> ∀ {a : Int}, a ∈ l -> l.count a = 1
 | [], _, _, h => by cases h
 | x :: l, hn, a, h => by
  have h1 := List.nodup_cons.1 hn
  by_cases e : a = x
  ·subst e
   rw [List.count_cons_self, List.count_eq_zero.2 h1.1]
  ·rcases List.mem_cons.1 h with h2 | h2
   ·exact absurd h2 e
   ·rw [List.count_cons_of_ne (fun e2 => e e2.symm), count_one h1.2 h2]
theorem plc_in {xs : List InoD} {a : Int} (h : ∃ x ∈ xs, x.id = a) : 0 <= plc xs a := by
 have h1 : xs.findIdx (fun x => x.id == a) < xs.length := by
  obtain ⟨x, hx, e⟩ := h
  exact List.findIdx_lt_length_of_exists ⟨x, hx, by simpa using e⟩
 unfold plc
 rw [if_pos h1]
 omega
section
variable {V : VolD} {D : List EntD}
theorem ScS.dir (h : ScS V D) : dirOkB D = true := by
 obtain ⟨ids, hx, _⟩ := h.is
 have := h.qv.dir (rootV D) (by rw [hx]; simp)
 exact this
theorem ScS.head (h : ScS V D) : ∃ h0 : 0 < V.xs.length, V.xs[0] = rootV D := by
 obtain ⟨ids, hx, _⟩ := h.is
 have h0 : 0 < V.xs.length := by rw [hx]; simp
 exact ⟨h0, by simp [hx]⟩
theorem ScS.plc1 (h : ScS V D) : plc V.xs 1 = ((0 : Nat) : Int) := by
 obtain ⟨h0, h1⟩ := h.head
 exact plc_hit h0 (by rw [h1]; rfl) (fun j hj => absurd hj (Nat.not_lt_zero _))
theorem ScS.ok (h : ScS V D) : VolP V.nx V.xs := by
 obtain ⟨ids, hx, hp⟩ := h.is
 have hq := h.qv
 obtain ⟨h0, hr⟩ := h.head
 have hpl := h.plc1
 have hgrow : ∀ (k : Nat) (hk : k < V.xs.length), ∀ (_ : 0 < k), V.xs[k-1].id < V.xs[k].id := fun k hk h0 => List.pairwise_iff_getElem.1 hq.pw (k - 1) k (by omega) hk (by omega)
 have hall : allIds V.xs = D.map (·.d) := by rw [hx]; exact allIds_root D ids
 have hnd : ids.Nodup := by
  have h1 := hq.pw
  rw [hx, List.pairwise_cons, List.pairwise_map] at h1
  exact h1.2.imp fun hab => by have : (fileV _).id < (fileV _).id := hab; intro e; rw [e] at this; exact Int.lt_irrefl _ this
 refine ⟨hq.nx, ⟨h0, hq.len⟩, ⟨rootV D, by rw [List.getElem?_eq_getElem h0, hr], rfl, rfl⟩, fun k hk => ?_, fun k hk h1 => ?_⟩
 ·have hid := hq.id _ (List.getElem_mem hk)
  refine ⟨hid.1, by omega, hgrow k hk, ?_⟩
  have hm := List.getElem_mem hk
  obtain ⟨x, hxe⟩ : ∃ x, V.xs[k] = x := ⟨_, rfl⟩
  rw [hxe] at hm ⊢
  have hm' := hm
  rw [hx] at hm'
  rcases List.mem_cons.1 hm' with rfl | hm'
  ·unfold inoOkB
   rw [if_neg (show ¬ (rootV D).kd = 1 from (by decide : ¬ (2 : Int) = 1))]
   have hes : (rootV D).es.all (fun e => decide (e.d ≠ 1) && decide (0 <= plc V.xs e.d)) = true := by
    rw [List.all_eq_true]
    intro e he
    obtain ⟨h2, h3⟩ := hq.es _ hm e he
    simp [h2, plc_in h3]
   rw [hes]
   have hd := h.dir
   simp only [Bool.and_eq_true, Bool.or_eq_true, decide_eq_true_eq]
   exact ⟨⟨⟨⟨⟨rfl, rfl⟩, rfl⟩, hd⟩, .inl rfl⟩, trivial⟩
  ·obtain ⟨i, hi, rfl⟩ := List.mem_map.1 hm'
   unfold inoOkB
   rw [if_pos (show (fileV i).kd = 1 from rfl)]
   have hl : linksN V.xs i = 1 := by
    unfold linksN
    rw [hall, hp.count_eq]
    exact count_one hnd hi
   have hl2 : linksN V.xs (fileV i).id = 1 := hl
   rw [hl2]
   rfl
 ·have hm := List.getElem_mem hk
  have hne : V.xs[k] ≠ rootV D := by
   intro e
   have h2 := List.pairwise_iff_getElem.1 hq.pw 0 k h0 hk (by omega)
   rw [hr, e] at h2
   exact Int.lt_irrefl _ h2
  obtain ⟨x, hxe⟩ : ∃ x, V.xs[k] = x := ⟨_, rfl⟩
  rw [hxe] at hm hne ⊢
  rw [hx] at hm
  rcases List.mem_cons.1 hm with h2 | hm
  ·exact absurd h2 hne
  ·obtain ⟨i, hi, rfl⟩ := List.mem_map.1 hm
   refine Rch.one ?_
   rw [kids_hit hpl, kidsAt_get h0, hr]
   exact hp.symm.subset hi
theorem ScS.sz (h : ScS V D) : szV V <= 1048576 := by have := h.qv.sm.sz; omega
theorem ScS.len (h : ScS V D) : D.length <= 12 := (dirOk_pw.1 h.dir).1
/-- A file is made. -/
theorem ScS.make (h : ScS V D) {s : ByteArray} (hn : nameOkB s = true) (hf : D.find? (isN s) = none) (hl : D.length < 12) (h16 : V.xs.length < 16) (hnx : V.nx < 100000) :
  ScS ⟨V.nx + 1, ptE (V.xs ++ [(⟨V.nx, 1, 1, ⟨#[]⟩, []⟩ : InoD)]) 0 (addP D s V.nx).1⟩ (addP D s V.nx).1 /\ (∀ e ∈ D, e ∈ (addP D s V.nx).1) /\ ∀ e ∈ (addP D s V.nx).1, e ∈ D ∨ e.s = s := by
 have hd := h.dir
 obtain ⟨h0, hr⟩ := h.head
 have hq2 := QV.make h.qv h16 hnx (kd := 1) (.inl rfl) (by decide) h0 (by rw [hr]; rfl) s
 have he : V.xs[0].es = D := by rw [hr]; rfl
 rw [he] at hq2
 obtain ⟨ids, hx, hp⟩ := h.is
 have hi : inI V.nx 1 100000 = true := inI_true.2 (by have := h.qv.nx; omega)
 have hy := addP_yes hd ⟨hn, hf, hi, show D.length ≠ 12 by omega⟩
 rw [hy] at hq2 ⊢
 have hmem : ∀ e ∈ D, e ∈ insL (newE D s V.nx) D := by
  intro e he
  unfold insL
  rw [List.mem_append, List.mem_cons]
  rw [<- List.takeWhile_append_dropWhile (p := fun x => behB (newE D s V.nx) x.h x.i) (l := D), List.mem_append] at he
  rcases he with he | he
  ·exact .inl he
  ·exact .inr (.inr he)
 refine ⟨⟨hq2, ids ++ [V.nx], ?_, ?_⟩, hmem, fun e he => ?_⟩
 ·show ptE (V.xs ++ [(⟨V.nx, 1, 1, ⟨#[]⟩, []⟩ : InoD)]) 0 (insL (newE D s V.nx) D) = _
  rw [hx]
  simp [ptE, rootV, fileV]
 ·have hperm : (insL (newE D s V.nx) D).Perm (newE D s V.nx :: D) := by
   unfold insL
   have h1 := List.takeWhile_append_dropWhile (p := fun x => behB (newE D s V.nx) x.h x.i) (l := D)
   exact (List.perm_middle).trans (List.Perm.cons _ (by rw [h1]))
  have h2 := hperm.map (·.d)
  rw [List.map_cons] at h2
  have h3 : (newE D s V.nx).d = V.nx := rfl
  rw [h3] at h2
  exact h2.trans ((List.Perm.cons _ hp).trans (List.perm_append_singleton _ _).symm)
 ·rcases insL_mem he with rfl | he
  ·exact .inr rfl
  ·exact .inl he
theorem filter_set {α : Type} (p : α -> Bool) (y : α) : ∀ (l : List α) (k : Nat) (hk : k < l.length), p l[k] = false -> p y = false -> (l.set k y).filter p = l.filter p
 | [], k, hk, _, _ => absurd hk (Nat.not_lt_zero _)
 | x :: l, 0, _, h1, h2 => by
  have h3 : p x = false := h1
  simp [h2, h3]
 | x :: l, k + 1, hk, h1, h2 => by
  have ih := filter_set p y l k (by simpa using hk) (by simpa using h1) h2
  simp [List.filter_cons, ih]
theorem files_filter (a : Int) (ids : List Int) : (ids.map fileV).filter (fun y => y.id != a) = (ids.filter (fun i => i != a)).map fileV := by
 induction ids with
 | nil => rfl
 | cons i ids ih =>
  rw [List.map_cons, List.filter_cons, List.filter_cons, ih]
  have h1 : (fileV i).id = i := rfl
  rw [h1]
  split <;> rfl
/-- A file is taken away. -/
theorem ScS.unlink (h : ScS V D) {s : ByteArray} {i : Nat} (hi : i < D.length) {j : Nat} (hj : j < V.xs.length) (hf : D.find? (isN s) = some D[i]) (hx0 : V.xs[j].id = D[i].d) (hes : V.xs[j].es = []) :
  ScS ⟨V.nx, lessV (ptE V.xs 0 (dropP D s).1) j V.xs[j].id (V.xs[j].ln - 1)⟩ (dropP D s).1 /\ (∀ e ∈ D, alikeB e.s s = false -> e ∈ (dropP D s).1) /\ ∀ e ∈ (dropP D s).1, e ∈ D := by
 have hd := h.dir
 obtain ⟨h0, hr⟩ := h.head
 have he : V.xs[0].es = D := by rw [hr]; rfl
 have hq2 := QV.unlink h.qv h0 (s := s) (j := i) (by rw [he]; exact hi) (by simp only [he]; exact hf) hj (by simp only [he]; exact hx0) hes
 simp only [he] at hq2
 obtain ⟨ids, hx, hp⟩ := h.is
 have hdr := dropP_yes hd hi hf
 have hne1 : D[i].d ≠ 1 := (h.qv.es (rootV D) (by rw [hx]; simp) D[i] (List.getElem_mem hi)).1
 have hj0 : j ≠ 0 := by
  rintro rfl
  rw [hr] at hx0
  exact hne1 hx0.symm
 obtain ⟨m, rfl⟩ : ∃ m, j = m + 1 := ⟨j - 1, by omega⟩
 have hm : m < ids.length := by rw [hx] at hj; simpa using hj
 have hxj : V.xs[m + 1] = fileV ids[m] := by simp [hx]
 have hidm : ids[m] = D[i].d := by rw [hxj] at hx0; exact hx0
 have hln : V.xs[m + 1].ln - 1 = 0 := by rw [hxj]; rfl
 have hid2 : V.xs[m + 1].id = D[i].d := hx0
 rw [hln, hid2] at hq2 ⊢
 have hlist : lessV (ptE V.xs 0 (dropP D s).1) (m + 1) D[i].d 0 = rootV (dropP D s).1 :: (ids.filter fun a => a != D[i].d).map fileV := by
  unfold lessV
  rw [if_pos rfl]
  have h1 : ptE V.xs 0 (dropP D s).1 = rootV (dropP D s).1 :: ids.map fileV := by rw [hx]; simp [ptE, rootV]
  rw [h1]
  have h2 : m + 1 < (rootV (dropP D s).1 :: ids.map fileV).length := by simp; omega
  rw [putL_at h2]
  have hp1 : ((rootV (dropP D s).1 :: ids.map fileV)[m + 1].id != D[i].d) = false := by simp [fileV, hidm]
  refine (filter_set (fun y => y.id != D[i].d) _ _ _ h2 hp1 ?_).trans ?_
  ·exact hp1
  rw [List.filter_cons, files_filter]
  have h3 : ((rootV (dropP D s).1).id != D[i].d) = true := by
   show ((1 : Int) != D[i].d) = true
   simpa using fun e => hne1 e.symm
  rw [if_pos h3]
 rw [hlist] at hq2 ⊢
 have hnd : (D.map (·.d)).Nodup := by
  refine hp.symm.nodup ?_
  have h1 := h.qv.pw
  rw [hx, List.pairwise_cons, List.pairwise_map] at h1
  exact h1.2.imp fun hab => by have : (fileV _).id < (fileV _).id := hab; intro e; rw [e] at this; exact Int.lt_irrefl _ this
 have hsplit : D = D.take i ++ D[i] :: D.drop (i + 1) := by rw [<- List.drop_eq_getElem_cons hi, List.take_append_drop]
 have hmap : D.map (·.d) = (D.take i).map (·.d) ++ D[i].d :: (D.drop (i + 1)).map (·.d) := by
  have h1 := congrArg (List.map (·.d)) hsplit
  rw [List.map_append, List.map_cons] at h1
  exact h1
 refine ⟨⟨hq2, _, rfl, ?_⟩, fun e hm2 ha => ?_, fun e hm2 => ?_⟩
 ·have h1 : ((dropP D s).1.map (·.d)) = (D.map (·.d)).filter (fun a => a != D[i].d) := by
   rw [hdr]
   show (D.take i ++ D.drop (i + 1)).map (·.d) = _
   rw [hmap] at hnd ⊢
   rw [List.map_append, List.filter_append, List.filter_cons]
   have h2 := List.nodup_append.1 hnd
   have h3 := List.nodup_cons.1 h2.2.1
   rw [if_neg (by simp)]
   have h4 : ((D.take i).map (·.d)).filter (fun a => a != D[i].d) = (D.take i).map (·.d) := List.filter_eq_self.2 fun a ha => by
    have := h2.2.2 a ha D[i].d (by simp)
    simpa using this
   have h5 : ((D.drop (i + 1)).map (·.d)).filter (fun a => a != D[i].d) = (D.drop (i + 1)).map (·.d) := List.filter_eq_self.2 fun a ha => by
    have : a ≠ D[i].d := fun e => h3.1 (e ▸ ha)
    simpa using this
   rw [h4, h5]
  rw [h1]
  exact hp.filter _
 ·rw [hdr]
  show e ∈ D.take i ++ D.drop (i + 1)
  have hm3 : e ∈ D.take i ++ D[i] :: D.drop (i + 1) := by rw [<- hsplit]; exact hm2
  rw [List.mem_append, List.mem_cons] at hm3
  rcases hm3 with hm2 | hm2 | hm2
  ·exact List.mem_append.2 (.inl hm2)
  ·exfalso
   have h6 := List.find?_some hf
   rw [hm2] at ha
   have h7 : alikeB D[i].s s = true := h6
   rw [h7] at ha
   cases ha
  ·exact List.mem_append.2 (.inr hm2)
 ·rw [hdr] at hm2
  exact (cut_sub D i).subset hm2
end

end Go.Proofs.YtjjniapamdleoaaGreatDoor
