/- Who goes through a directory while names come and go meets each that stays just once: plain. -/
import Derived.Test.YtjjniapamdleoaaGreatDoorRCScP
namespace Go.Proofs.YtjjniapamdleoaaGreatDoor
open Go Go.RowKit

theorem beh_irr (e : EntD) : behB e e.h e.i = false := by unfold behB; simp
theorem beh_up {a b : EntD} {x y : Int} (h : behB a x y = true) (h2 : behB b a.h a.i = true) : behB b x y = true := by
 unfold behB at *
 simp only [Bool.or_eq_true, Bool.and_eq_true, decide_eq_true_eq] at *
 omega
theorem beh_dn {a b : EntD} {x y : Int} (h : behB a x y = false) (h2 : behB b x y = true) : behB a b.h b.i = false := by
 unfold behB at *
 simp only [Bool.or_eq_true, Bool.and_eq_true, decide_eq_true_eq, Bool.or_eq_false_iff, Bool.and_eq_false_iff, decide_eq_false_iff_not] at *
 omega
theorem beh_anti {a b : EntD} (h : behB b a.h a.i = true) : behB a b.h b.i = false := by
 unfold behB at *
 simp only [Bool.or_eq_true, Bool.and_eq_true, decide_eq_true_eq, Bool.or_eq_false_iff, Bool.and_eq_false_iff, decide_eq_false_iff_not] at *
 omega
/-- Behind a cursor stand those from a place on. -/
def Rk (D : List EntD) (x y : Int) (p : Nat) : Prop := p <= D.length /\ ∀ (k : Nat) (h : k < D.length), behB D[k] x y = true ↔ p <= k
theorem rank_ex {D : List EntD} (hd : dirOkB D = true) (x y : Int) : ∃ p, Rk D x y p := by
 refine ⟨D.findIdx fun e => behB e x y, List.findIdx_le_length, fun k hk => ⟨fun h => ?_, fun h => ?_⟩⟩
 ·rcases Nat.lt_or_ge k (D.findIdx fun e => behB e x y) with h2 | h2
  ·have h3 := List.not_of_lt_findIdx h2
   exact absurd h (by simpa using h3)
  ·exact h2
 ·have hlt : D.findIdx (fun e => behB e x y) < D.length := Nat.lt_of_le_of_lt h hk
  have h3 : behB D[D.findIdx fun e => behB e x y] x y = true := List.findIdx_getElem (w := hlt)
  rcases Nat.lt_or_eq_of_le h with h4 | h4
  ·exact beh_up h3 (dir_lessW hd h4 hk)
  ·simp only [h4] at h3
   exact h3
theorem Rk.find {D : List EntD} {x y : Int} {p : Nat} (h : Rk D x y p) : D.find? (fun e => behB e x y) = D[p]? :=
 find_at D p (fun j hj hlt => by
  have h1 := h.2 j hj
  cases h2 : behB D[j] x y
  ·rfl
  ·have := h1.1 h2
   omega) (fun hp => (h.2 p hp).2 (Nat.le_refl _))
theorem Rk.next {D : List EntD} (hd : dirOkB D = true) {p : Nat} (hp : p < D.length) : Rk D D[p].h D[p].i (p + 1) := by
 refine ⟨hp, fun k hk => ⟨fun h => ?_, fun h => dir_lessW hd h hk⟩⟩
 rcases Nat.lt_trichotomy k p with h1 | h1 | h1
 ·have := beh_anti (dir_lessW hd h1 hp)
  rw [this] at h
  cases h
 ·subst h1
  rw [beh_irr] at h
  cases h
 ·exact h1
theorem Rk.some {D : List EntD} {x y : Int} {p : Nat} (h : Rk D x y p) (hp : p < D.length) : nxC D x y = (D[p].h, D[p].i, D[p].s, 0) := by
 unfold nxC
 rw [h.find, List.getElem?_eq_getElem hp]
theorem Rk.none {D : List EntD} {x y : Int} {p : Nat} (h : Rk D x y p) (hp : D.length <= p) : nxC D x y = (x, y, ⟨#[]⟩, 2) := by
 unfold nxC
 rw [h.find, List.getElem?_eq_none hp]
/-- How often a text stands in a list. -/
def cntT (a : ByteArray) : List ByteArray -> Nat
 | [] => 0
 | s :: l => (if s = a then 1 else 0) + cntT a l
theorem cntT_snoc (a s : ByteArray) : ∀ l, cntT a (l ++ [s]) = cntT a l + if s = a then 1 else 0
 | [] => by simp [cntT]
 | t :: l => by rw [List.cons_append, cntT, cntT_snoc a s l, cntT]; omega
theorem cntT_take {a : ByteArray} {l : List ByteArray} {k : Nat} (hk : k < l.length) : cntT a (l.take (k + 1)) = cntT a (l.take k) + if l[k] = a then 1 else 0 := by
 rw [List.take_succ_eq_append_getElem hk, cntT_snoc]
/-- What holds while one goes through. -/
structure ScI (D : List EntD) (all ever seen : List ByteArray) (x y : Int) : Prop where
 all_ : ∀ a ∈ all, ∃ e ∈ D, e.s = a /\ cntT a seen = if behB e x y = true then 0 else 1
 ever_ : ∀ e ∈ D, e.s ∈ ever
 seen_ : ∀ s ∈ seen, s ∈ ever
theorem ScI.start {D : List EntD} (hd : dirOkB D = true) : ScI D (namesOf D) (namesOf D) [] (-1) (-1) := by
 refine ⟨fun a ha => ?_, fun e he => List.mem_map_of_mem he, fun s hs => by cases hs⟩
 obtain ⟨e, he, rfl⟩ := List.mem_map.1 ha
 refine ⟨e, he, rfl, ?_⟩
 have h1 := ent_pos hd he
 have h2 : behB e (-1) (-1) = true := by
  unfold behB
  simp only [Bool.or_eq_true, Bool.and_eq_true, decide_eq_true_eq]
  omega
 rw [if_pos h2]
 rfl
section
variable {D D' : List EntD} {all ever seen : List ByteArray} {x y : Int}
theorem ScI.mk' (h : ScI D all ever seen x y) {n : ByteArray} (h1 : ∀ e ∈ D, e ∈ D') (h2 : ∀ e ∈ D', e ∈ D ∨ e.s = n) : ScI D' all (ever ++ [n]) seen x y :=
 ⟨fun a ha => by obtain ⟨e, he, h3⟩ := h.all_ a ha; exact ⟨e, h1 e he, h3⟩,
  fun e he => by
   rcases h2 e he with h3 | h3
   ·exact List.mem_append.2 (.inl (h.ever_ e h3))
   ·rw [h3]; simp,
  fun s hs => List.mem_append.2 (.inl (h.seen_ s hs))⟩
theorem ScI.un (h : ScI D all ever seen x y) {n : ByteArray} (h1 : ∀ e ∈ D, alikeB e.s n = false -> e ∈ D') (h2 : ∀ e ∈ D', e ∈ D) : ScI D' (all.filter fun a => !alikeB a n) ever seen x y :=
 ⟨fun a ha => by
  obtain ⟨h3, h4⟩ := List.mem_filter.1 ha
  obtain ⟨e, he, rfl, h5⟩ := h.all_ a h3
  exact ⟨e, h1 e he (by simpa using h4), rfl, h5⟩,
  fun e he => h.ever_ e (h2 e he), h.seen_⟩
theorem ScI.nx (h : ScI D all ever seen x y) (hd : dirOkB D = true) {p : Nat} (hr : Rk D x y p) (hp : p < D.length) : ScI D all ever (seen ++ [D[p].s]) D[p].h D[p].i := by
 obtain ⟨_, _, hpw⟩ := dirOk_pw.1 hd
 have hE : behB D[p] x y = true := (hr.2 p hp).2 (Nat.le_refl _)
 have hr2 := Rk.next hd hp
 refine ⟨fun a ha => ?_, h.ever_, fun s hs => ?_⟩
 ·obtain ⟨e, he, rfl, h3⟩ := h.all_ a ha
  refine ⟨e, he, rfl, ?_⟩
  rw [cntT_snoc, h3]
  obtain ⟨k, hk, rfl⟩ := List.getElem_of_mem he
  have hb := hr.2 k hk
  have hb2 := hr2.2 k hk
  by_cases hkp : k = p
  ·subst hkp
   rw [if_pos hE, if_pos rfl, if_neg (by rw [beh_irr]; simp)]
  ·have hns : D[p].s ≠ D[k].s := by
    intro e
    rcases Nat.lt_or_gt_of_ne hkp with h4 | h4
    ·exact (List.pairwise_iff_getElem.1 hpw k p hk hp h4).2 (by rw [e])
    ·exact (List.pairwise_iff_getElem.1 hpw p k hp hk h4).2 (by rw [e])
   rw [if_neg hns, Nat.add_zero]
   by_cases h5 : p <= k
   ·rw [if_pos (hb.2 h5), if_pos (hb2.2 (by omega))]
   ·rw [if_neg (fun e => h5 (hb.1 e)), if_neg (fun e => by have := hb2.1 e; omega)]
 ·rcases List.mem_append.1 hs with hs | hs
  ·exact h.seen_ s hs
  ·rw [List.mem_singleton.1 hs]
   exact h.ever_ _ (List.getElem_mem hp)
theorem ScI.fin (h : ScI D all ever seen x y) {p : Nat} (hr : Rk D x y p) (hp : D.length <= p) : ∀ a ∈ all, cntT a seen = 1 := by
 intro a ha
 obtain ⟨e, he, rfl, h3⟩ := h.all_ a ha
 obtain ⟨k, hk, rfl⟩ := List.getElem_of_mem he
 rw [h3, if_neg (fun e => by have := (hr.2 k hk).1 e; omega)]
end

end Go.Proofs.YtjjniapamdleoaaGreatDoor
