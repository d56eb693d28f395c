/- A right directory stays right when one is added or taken away: plain Lean. -/
import Derived.Test.YtjjniapamdleoaaGreatDoorRCDoP
namespace Go.Proofs.YtjjniapamdleoaaGreatDoor
open Go Go.RowKit

theorem dirOk_pw {ds : List EntD} : dirOkB ds = true ↔ ds.length <= 12 /\ (∀ e ∈ ds, entOkB e = true) /\ ds.Pairwise fun a b => behB b a.h a.i = true /\ keyB a.s ≠ keyB b.s := by
 constructor
 ·intro h
  have hp := dirOkB_iff.1 h
  refine ⟨hp.1, fun e he => ?_, ?_⟩
  ·obtain ⟨i, hi, rfl⟩ := List.getElem_of_mem he
   exact (hp.2 i hi).1
  ·rw [List.pairwise_iff_getElem]
   intro i j hi hj hij
   exact ⟨dir_less h hij hj, (hp.2 j hj).2.2 i hij⟩
 ·rintro ⟨h1, h2, h3⟩
  rw [List.pairwise_iff_getElem] at h3
  refine dirOkB_iff.2 ⟨h1, fun i hi => ⟨h2 _ (List.getElem_mem hi), fun h0 => (h3 (i - 1) i (by omega) hi (by omega)).1, fun k hk => (h3 k i (by omega) hi hk).2⟩⟩
theorem dirOk_sub {ds es : List EntD} (h : dirOkB ds = true) (hs : es.Sublist ds) : dirOkB es = true := by
 obtain ⟨h1, h2, h3⟩ := dirOk_pw.1 h
 exact dirOk_pw.2 ⟨Nat.le_trans hs.length_le h1, fun e he => h2 e (hs.subset he), h3.sublist hs⟩
theorem cut_sub {α : Type} (l : List α) (k : Nat) : (l.take k ++ l.drop (k + 1)).Sublist l := by
 conv => rhs; rw [<- List.take_append_drop k l]
 refine List.Sublist.append (List.Sublist.refl _) ?_
 rw [<- List.drop_drop]
 exact List.drop_sublist 1 _
theorem beh_or {b : EntD} {h i : Int} (h1 : ¬ behB ⟨h, i, ⟨#[]⟩, 0⟩ b.h b.i = true) (h2 : ¬ (b.h = h /\ b.i = i)) : behB b h i = true := by
 unfold behB at *
 simp only [Bool.or_eq_true, Bool.and_eq_true, decide_eq_true_eq] at *
 omega
theorem dw_all {p : EntD -> Bool} : ∀ {l : List EntD} {b : EntD}, b ∈ l.dropWhile p -> ∃ b0, b0 ∈ l /\ p b0 = false /\ (b = b0 ∨ [b0, b].Sublist l)
 | [], b, h => by simp at h
 | x :: l, b, h => by
  rw [List.dropWhile_cons] at h
  split at h
  ·obtain ⟨b0, h1, h2, h3⟩ := dw_all h
   refine ⟨b0, by simp [h1], h2, ?_⟩
   rcases h3 with h3 | h3
   ·exact .inl h3
   ·exact .inr (h3.trans (List.sublist_cons_self _ _))
  ·rename_i hx
   refine ⟨x, by simp, by simpa using hx, ?_⟩
   rcases List.mem_cons.1 h with h | h
   ·exact .inl h
   ·exact .inr (List.cons_sublist_cons.2 (List.singleton_sublist.2 h))
theorem tw_all {p : EntD -> Bool} : ∀ {l : List EntD} {a : EntD}, a ∈ l.takeWhile p -> p a = true
 | [], a, h => by simp at h
 | x :: l, a, h => by
  rw [List.takeWhile_cons] at h
  split at h
  ·rename_i hx
   rcases List.mem_cons.1 h with rfl | h
   ·exact hx
   ·exact tw_all h
  ·cases h
theorem addP_ok {ds : List EntD} (hd : dirOkB ds = true) (s : ByteArray) (id : Int) : dirOkB (addP ds s id).1 = true := by
 by_cases hc : nameOkB s = true /\ ds.find? (isN s) = none /\ inI id 1 100000 = true /\ ds.length ≠ 12
 ·rw [addP_yes hd hc]
  obtain ⟨hn, hf, hi, h12⟩ := hc
  obtain ⟨h1, h2, h3⟩ := dirOk_pw.1 hd
  have hix := ixL_bd hd (hashI s)
  have hno : ∀ x ∈ ds, ¬ (x.h = hashI s /\ x.i = ixL (hashI s) ds) := by
   have h := ixL_any hd (hashI s) (ixL (hashI s) ds) hix.1 (Int.le_refl _)
   rw [decide_eq_false (by omega), List.any_eq_false] at h
   intro x hx hh
   exact h x hx (by simp [isPl, hh.1, hh.2])
  have hkey : ∀ x ∈ ds, keyB x.s ≠ keyB s := by
   intro x hx he
   have h := List.find?_eq_none.1 hf x hx
   apply h
   have hxn := h2 x hx
   unfold entOkB at hxn
   simp only [Bool.and_eq_true] at hxn
   unfold isN alikeB
   simp [hxn.1, hn, he]
  have hbeh : ∀ b ∈ ds.dropWhile (fun x => behB (newE ds s id) x.h x.i), behB b (hashI s) (ixL (hashI s) ds) = true := by
   intro b hb
   obtain ⟨b0, hb0, hp, hor⟩ := dw_all hb
   have h0 : behB b0 (hashI s) (ixL (hashI s) ds) = true := beh_or (by have hq : behB ⟨hashI s, ixL (hashI s) ds, ⟨#[]⟩, 0⟩ b0.h b0.i = false := hp; rw [hq]; simp) (hno b0 hb0)
   rcases hor with rfl | hsub
   ·exact h0
   ·have h4 := (List.pairwise_cons.1 (h3.sublist hsub)).1 b (by simp)
    exact beh_trans (a := newE ds s id) h4.1 h0
  refine dirOk_pw.2 ⟨by show (insL _ _).length <= 12; rw [insL_len]; omega, fun e he => ?_, ?_⟩
  ·rcases insL_mem he with rfl | he
   ·unfold entOkB newE
    simp only [hn, hi, Bool.and_eq_true, beq_self_eq_true, true_and, and_true]
    exact inI_true.2 ⟨hix.1, by omega⟩
   ·exact h2 e he
  ·show (insL _ _).Pairwise _
   unfold insL
   rw [List.pairwise_append]
   refine ⟨h3.sublist (List.takeWhile_sublist _), ?_, ?_⟩
   ·rw [List.pairwise_cons]
    refine ⟨fun b hb => ⟨hbeh b hb, fun e => hkey b ((List.dropWhile_sublist _).subset hb) e.symm⟩, h3.sublist (List.dropWhile_sublist _)⟩
   ·intro a ha b hb
    have hae : behB (newE ds s id) a.h a.i = true := tw_all ha
    have ham := (List.takeWhile_sublist _).subset ha
    rcases List.mem_cons.1 hb with rfl | hb
    ·exact ⟨hae, hkey a ham⟩
    ·have hp := h3
     rw [<- List.takeWhile_append_dropWhile (p := fun x : EntD => behB (newE ds s id) x.h x.i) (l := ds), List.pairwise_append] at hp
     exact hp.2.2 a ha b hb
 ·rw [addP_no hd hc]; exact hd
theorem dropP_ok {ds : List EntD} (hd : dirOkB ds = true) (s : ByteArray) : dirOkB (dropP ds s).1 = true := by
 unfold dropP
 rw [if_pos hd]
 split
 ·exact hd
 ·exact dirOk_sub hd (cut_sub _ _)

end Go.Proofs.YtjjniapamdleoaaGreatDoor
