/- The plain law of pages: what is added and taken away stands in order; pages stay right. -/
import Derived.Test.YtbchbmcphbeikaaGreatDoorPgP
import Derived.Test.YtbchbmcphbeikaaGreatDoorPgDrp
namespace Go.Proofs.YtbchbmcphbeikaaGreatDoor
open Go Go.RowKit

/-- One entry is ahead of another. -/
def Rl (a b : EntD) : Prop := behB b a.h a.i = true
theorem Rl_iff {a b : EntD} : Rl a b ↔ a.h < b.h ∨ (b.h = a.h ∧ a.i < b.i) := by
  unfold Rl behB
  rw [Bool.or_eq_true, Bool.and_eq_true, decide_eq_true_eq, decide_eq_true_eq, decide_eq_true_eq]
theorem Rl_trans {a b c : EntD} (h1 : Rl a b) (h2 : Rl b c) : Rl a c := by
  rw [Rl_iff] at *
  omega
theorem Rl_tri {a b : EntD} (h : behB b a.h a.i = false) (hne : ¬ (a.h = b.h ∧ a.i = b.i)) : Rl b a := by
  have h1 : ¬ Rl a b := fun h' => by unfold Rl at h'; rw [h] at h'; cases h'
  rw [Rl_iff] at *
  omega
theorem Ord_pw : ∀ {l : List EntD}, Ord l → l.Pairwise Rl
  | [], _ => .nil
  | [a], _ => by simp
  | a :: b :: l, h => by
    have h2 : Ord (b :: l) := fun i hi => h (i + 1) (by simpa using hi)
    have h3 := Ord_pw h2
    have hab : Rl a b := h 0 (by simp)
    refine List.pairwise_cons.2 ⟨fun x hx => ?_, h3⟩
    rcases List.mem_cons.1 hx with rfl | hx
    · exact hab
    · exact Rl_trans hab ((List.pairwise_cons.1 h3).1 x hx)
theorem pw_Ord {l : List EntD} (h : l.Pairwise Rl) : Ord l := fun i hi => List.pairwise_iff_getElem.1 h i (i + 1) (by omega) hi (by omega)
/-- A page's size. -/
theorem pgB_iff {m : Nat} {l : List EntD} : pgB m l = true ↔ 1 ≤ l.length ∧ l.length ≤ 4 ∧ (1 < m → 2 ≤ l.length) := by
  unfold pgB
  rw [Bool.and_eq_true, inI_true]
  constructor
  · rintro ⟨h1, h2⟩
    refine ⟨by omega, by omega, fun hm => ?_⟩
    rw [Bool.not_eq_true', Bool.and_eq_false_iff, decide_eq_false_iff_not, decide_eq_false_iff_not] at h2
    omega
  · rintro ⟨h1, h2, h3⟩
    refine ⟨by omega, ?_⟩
    rw [Bool.not_eq_true', Bool.and_eq_false_iff, decide_eq_false_iff_not, decide_eq_false_iff_not]
    omega
theorem flat_split (ps : List (List EntD)) (k : Nat) (h : k < ps.length) : ps.flatten = (ps.take k).flatten ++ ps[k] ++ (ps.drop (k + 1)).flatten := by
  have h1 : ps = ps.take k ++ ps[k] :: ps.drop (k + 1) := by rw [← List.drop_eq_getElem_cons h, List.take_append_drop]
  have h2 := congrArg List.flatten h1
  rw [List.flatten_append, List.flatten_cons, ← List.append_assoc] at h2
  exact h2
theorem flat_set (ps : List (List EntD)) (k : Nat) (l : List EntD) (h : k < ps.length) : (ps.set k l).flatten = (ps.take k).flatten ++ l ++ (ps.drop (k + 1)).flatten := by
  rw [List.set_eq_take_append_cons_drop, if_pos h]
  simp
theorem flat_part (ps : List (List EntD)) (k : Nat) (l : List EntD) (h : k < ps.length) : (partP ps k l).flatten = (ps.take k).flatten ++ l ++ (ps.drop (k + 1)).flatten := by
  unfold partP
  split
  · simp only [List.flatten_append, List.flatten_cons]
    rw [List.append_assoc, ← List.append_assoc (l.take 3), List.take_append_drop]
  · exact flat_set ps k l h
theorem atL_take (e : EntD) : ∀ (l : List EntD), ∀ x ∈ l.take (atL e l), Rl x e
  | [], x, h => by simp at h
  | y :: r, x, h => by
    rw [atL] at h
    cases hb : behB e y.h y.i with
    | false => rw [hb] at h; simp at h
    | true =>
      rw [hb] at h
      simp only [cond_true, List.take_succ_cons, List.mem_cons] at h
      rcases h with rfl | h
      · exact hb
      · exact atL_take e r x h
theorem atL_drop (e : EntD) : ∀ (l : List EntD), l.Pairwise Rl → (∀ x ∈ l, ¬ (x.h = e.h ∧ x.i = e.i)) → ∀ x ∈ l.drop (atL e l), Rl e x
  | [], _, _, x, h => by simp at h
  | y :: r, hp, hne, x, h => by
    rw [atL] at h
    cases hb : behB e y.h y.i with
    | false =>
      rw [hb] at h
      simp only [cond_false, List.drop_zero] at h
      have h1 : Rl e y := Rl_tri hb (hne y (by simp))
      rcases List.mem_cons.1 h with rfl | h
      · exact h1
      · exact Rl_trans h1 ((List.pairwise_cons.1 hp).1 x h)
    | true =>
      rw [hb] at h
      simp only [cond_true, List.drop_succ_cons] at h
      exact atL_drop e r (List.pairwise_cons.1 hp).2 (fun x hx => hne x (by simp [hx])) x h
theorem kAt_hit (e : EntD) (ps : List (List EntD)) : ∀ n, 0 < kAt e ps n → behB e (fstE (ps.getD (kAt e ps n) [])).h (fstE (ps.getD (kAt e ps n) [])).i = true
  | 0, h => by simp [kAt] at h
  | n + 1, h => by
    rw [kAt] at h ⊢
    cases hb : behB e (fstE (ps.getD n [])).h (fstE (ps.getD n [])).i with
    | true => exact hb
    | false => rw [hb] at h; exact kAt_hit e ps n h
theorem kAt_miss (e : EntD) (ps : List (List EntD)) : ∀ n j, kAt e ps n < j → j < n → behB e (fstE (ps.getD j [])).h (fstE (ps.getD j [])).i = false
  | 0, _, _, h => by omega
  | n + 1, j, h1, h2 => by
    rw [kAt] at h1
    cases hb : behB e (fstE (ps.getD n [])).h (fstE (ps.getD n [])).i with
    | true => rw [hb] at h1; simp only [cond_true] at h1; omega
    | false =>
      rw [hb] at h1
      by_cases hj : j = n
      · subst hj; exact hb
      · exact kAt_miss e ps n j h1 (by omega)
theorem fst_mem {l : List EntD} (h : 1 ≤ l.length) : ∃ r, l = fstE l :: r := by
  cases l with
  | nil => simp at h
  | cons a r => exact ⟨r, rfl⟩

/-- One more entry stands in its place. -/
theorem add_flat {ps : List (List EntD)} {e : EntD} (hok : OkP ps) (h0 : ps.length ≠ 0) (hne : ∀ x ∈ ps.flatten, ¬ (x.h = e.h ∧ x.i = e.i)) :
    ∃ A B, ps.flatten = A ++ B ∧ (partP ps (kAt e ps ps.length) (putE e (ps.getD (kAt e ps ps.length) []))).flatten = A ++ e :: B ∧ (A ++ e :: B).Pairwise Rl := by
  have hpw := Ord_pw hok.2.2
  have hk := kAt_lt e ps ps.length (by omega)
  have hhit := kAt_hit e ps ps.length
  have hmiss := kAt_miss e ps ps.length
  obtain ⟨k, hkk⟩ : ∃ k, kAt e ps ps.length = k := ⟨_, rfl⟩
  rw [hkk] at hk hhit hmiss ⊢
  have hg : ps.getD k [] = ps[k] := by simp [List.getD, hk]
  rw [hg] at hhit ⊢
  have hsz : ∀ l ∈ ps, 1 ≤ l.length := fun l hl => (pgB_iff.1 (hok.2.1 l hl)).1
  have hs := flat_split ps k hk
  have hf := flat_part ps k (putE e ps[k]) hk
  have hT : (ps.drop (k + 1)).flatten = [] ∨ ∃ x r, (ps.drop (k + 1)).flatten = x :: r ∧ behB e x.h x.i = false := by
    by_cases h : k + 1 < ps.length
    · right
      have h1 := hmiss (k + 1) (by omega) h
      rw [show ps.getD (k + 1) [] = ps[k + 1] by simp [List.getD, h]] at h1
      obtain ⟨r, hr⟩ := fst_mem (hsz _ (List.getElem_mem h))
      rw [List.drop_eq_getElem_cons h, List.flatten_cons]
      generalize fstE ps[k + 1] = f at h1 hr
      rw [hr]
      exact ⟨f, _, rfl, h1⟩
    · left
      rw [List.drop_eq_nil_of_le (by omega)]; rfl
  have hH : (ps.take k).flatten = [] ∨ ∃ f r, ps[k] = f :: r ∧ behB e f.h f.i = true := by
    rcases Nat.eq_zero_or_pos k with h | h
    · left; subst h; rfl
    · right
      have h1 := hhit h
      obtain ⟨r, hr⟩ := fst_mem (hsz _ (List.getElem_mem hk))
      exact ⟨fstE ps[k], r, hr, h1⟩
  generalize (ps.take k).flatten = P at *
  generalize (ps.drop (k + 1)).flatten = Q at *
  generalize ps[k] = l at *
  rw [hs] at hpw hne
  obtain ⟨hpl, hQ, hcross⟩ := List.pairwise_append.1 hpw
  obtain ⟨hP, hl, hcross2⟩ := List.pairwise_append.1 hpl
  have a1 : ∀ x ∈ P, Rl x e := by
    intro x hx
    rcases hH with rfl | ⟨f, r, hfr, hb⟩
    · cases hx
    · exact Rl_trans (hcross2 x hx f (by rw [hfr]; simp)) hb
  have a2 := atL_take e l
  have a3 := atL_drop e l hl (fun x hx => hne x (by simp [hx]))
  have a4 : ∀ x ∈ Q, Rl e x := by
    intro x hx
    rcases hT with rfl | ⟨f, r, rfl, hb⟩
    · cases hx
    · have h1 : Rl e f := Rl_tri hb (hne f (by simp))
      rcases List.mem_cons.1 hx with rfl | hx
      · exact h1
      · exact Rl_trans h1 ((List.pairwise_cons.1 hQ).1 x hx)
  refine ⟨P ++ l.take (atL e l), l.drop (atL e l) ++ Q, ?_, ?_, ?_⟩
  · rw [hs, List.append_assoc, List.append_assoc, ← List.append_assoc (l.take _), List.take_append_drop]
  · rw [hf]; unfold putE; simp
  · have hall : (P ++ l.take (atL e l) ++ (l.drop (atL e l) ++ Q)).Pairwise Rl := by
      have : P ++ l.take (atL e l) ++ (l.drop (atL e l) ++ Q) = P ++ l ++ Q := by
        rw [List.append_assoc, List.append_assoc, ← List.append_assoc (l.take _), List.take_append_drop]
      rw [this]; exact hpw
    obtain ⟨h1, h2, h3⟩ := List.pairwise_append.1 hall
    refine List.pairwise_append.2 ⟨h1, List.pairwise_cons.2 ⟨fun x hx => ?_, h2⟩, fun x hx y hy => ?_⟩
    · rcases List.mem_append.1 hx with hx | hx
      · exact a3 x hx
      · exact a4 x hx
    · rcases List.mem_cons.1 hy with rfl | hy
      · rcases List.mem_append.1 hx with hx | hx
        · exact a1 x hx
        · exact a2 x hx
      · exact h3 x hx y hy

theorem add_ok {ps : List (List EntD)} {e : EntD} (hok : OkP ps) (h0 : ps.length ≠ 0) (hne : ∀ x ∈ ps.flatten, ¬ (x.h = e.h ∧ x.i = e.i))
    (h8 : ¬ 8 < (partP ps (kAt e ps ps.length) (putE e (ps.getD (kAt e ps ps.length) []))).length) : OkP (partP ps (kAt e ps ps.length) (putE e (ps.getD (kAt e ps ps.length) []))) := by
  obtain ⟨A, B, _, hf, hp⟩ := add_flat hok h0 hne
  refine ⟨by omega, fun l hl => ?_, by rw [hf]; exact pw_Ord hp⟩
  have hk := kAt_lt e ps ps.length (by omega)
  obtain ⟨k, hkk⟩ : ∃ k, kAt e ps ps.length = k := ⟨_, rfl⟩
  rw [hkk] at hk hl ⊢
  have hg : ps.getD k [] = ps[k] := by simp [List.getD, hk]
  rw [hg] at hl ⊢
  have hpk := pgB_iff.1 (hok.2.1 _ (List.getElem_mem hk))
  have hpl := putE_len e ps[k]
  have hold : ∀ x ∈ ps, 1 < ps.length → pgB 2 x = true := fun x hx h => by
    have := pgB_iff.1 (hok.2.1 x hx)
    exact pgB_iff.2 ⟨this.1, this.2.1, fun _ => this.2.2 h⟩
  have hmono : ∀ m, pgB 2 l = true → pgB m l = true := fun m h => by
    have := pgB_iff.1 h
    exact pgB_iff.2 ⟨this.1, this.2.1, fun _ => this.2.2 (by omega)⟩
  unfold partP at hl ⊢
  split at hl
  · rename_i h4
    have hlen : (ps.take k ++ (putE e ps[k]).take 3 :: (putE e ps[k]).drop 3 :: ps.drop (k + 1)).length = ps.length + 1 := by
      rw [List.length_append, List.length_cons, List.length_cons, List.length_take, List.length_drop]; omega
    apply hmono
    have hn1 : ∀ x, x ∈ ps.take k ∨ x ∈ ps.drop (k + 1) → 1 < ps.length := fun x hx => by
      rcases hx with hx | hx
      · have := List.length_pos_of_mem hx; rw [List.length_take] at this; omega
      · have := List.length_pos_of_mem hx; rw [List.length_drop] at this; omega
    rcases List.mem_append.1 hl with hx | hx
    · exact hold l (List.mem_of_mem_take hx) (hn1 l (.inl hx))
    · rcases List.mem_cons.1 hx with rfl | hx
      · exact pgB_iff.2 (by rw [List.length_take]; omega)
      · rcases List.mem_cons.1 hx with rfl | hx
        · exact pgB_iff.2 (by rw [List.length_drop]; omega)
        · exact hold l (List.mem_of_mem_drop hx) (hn1 l (.inr hx))
  · rename_i h4
    rw [if_neg h4, List.length_set]
    rcases List.mem_or_eq_of_mem_set hl with hx | rfl
    · exact hok.2.1 l hx
    · exact pgB_iff.2 (by omega)

/-! ### A page of one entry, mended -/
theorem set0 {α : Type} (P R : List α) (x y : α) : (P ++ x :: R).set P.length y = P ++ y :: R := by rw [List.set_append_right _ _ (Nat.le_refl _), Nat.sub_self]; rfl
theorem set1 {α : Type} (P R : List α) (x y z : α) : (P ++ x :: z :: R).set (P.length + 1) y = P ++ x :: y :: R := by rw [List.set_append_right _ _ (by omega), show P.length + 1 - P.length = 1 by omega]; rfl
theorem get0 (P R : List (List EntD)) (x : List EntD) : (P ++ x :: R).getD P.length [] = x := by
  rw [List.getD_eq_getElem?_getD, List.getElem?_append_right (Nat.le_refl _), Nat.sub_self]; rfl
theorem get1 (P R : List (List EntD)) (x y : List EntD) : (P ++ x :: y :: R).getD (P.length + 1) [] = y := by
  rw [List.getD_eq_getElem?_getD, List.getElem?_append_right (by omega), show P.length + 1 - P.length = 1 by omega]; rfl
theorem take1 {α : Type} (P R : List α) (x : α) : (P ++ x :: R).take (P.length + 1) = P ++ [x] := by
  rw [List.take_append, List.take_of_length_le (by omega), show P.length + 1 - P.length = 1 by omega]; rfl
theorem drop2 {α : Type} (P R : List α) (x y : α) : (P ++ x :: y :: R).drop (P.length + 2) = R := by
  rw [List.drop_append, List.drop_eq_nil_of_le (by omega), show P.length + 2 - P.length = 2 by omega]; rfl
theorem part2 {α : Type} (L : List α) (k : Nat) (h : k + 1 < L.length) : ∃ P R, P.length = k ∧ L = P ++ L[k] :: L[k + 1] :: R :=
  ⟨L.take k, L.drop (k + 2), by rw [List.length_take]; omega, by rw [← List.drop_eq_getElem_cons h, ← List.drop_eq_getElem_cons (by omega), List.take_append_drop]⟩
theorem take0 {α : Type} (P R : List α) : (P ++ R).take P.length = P := List.take_left
/-- Pages each of which, but the one at a place, is half full, are so altogether when that one is mended; what stands in them is the same. -/
theorem mend_ok {qs : List (List EntD)} {k : Nat} (hk : k < qs.length) (h2 : 2 ≤ qs.length) (h1 : ∀ (h : k < qs.length), qs[k].length = 1) (ho : ∀ (i : Nat) (h : i < qs.length), i ≠ k → 2 ≤ qs[i].length ∧ qs[i].length ≤ 4) :
    (mendP qs k).flatten = qs.flatten ∧ (mendP qs k).length ≤ qs.length ∧ ∀ l ∈ mendP qs k, 2 ≤ l.length ∧ l.length ≤ 4 := by
  have hx1 := h1 hk
  have hmem : ∀ (P R : List (List EntD)) (x y : List EntD), qs = P ++ x :: y :: R → (k = P.length ∨ k = P.length + 1) → (∀ l ∈ P, 2 ≤ l.length ∧ l.length ≤ 4) ∧ ∀ l ∈ R, 2 ≤ l.length ∧ l.length ≤ 4 := by
    intro P R x y hq hkk
    subst hq
    constructor
    · intro l hl
      obtain ⟨i, hi, rfl⟩ := List.mem_iff_getElem.1 hl
      have := ho i (by rw [List.length_append]; omega) (by omega)
      rwa [List.getElem_append_left hi] at this
    · intro l hl
      obtain ⟨i, hi, rfl⟩ := List.mem_iff_getElem.1 hl
      have := ho (P.length + 2 + i) (by rw [List.length_append, List.length_cons, List.length_cons]; omega) (by omega)
      rw [List.getElem_append_right (by omega)] at this
      simp only [show P.length + 2 + i - P.length = i + 2 by omega, List.getElem_cons_succ] at this
      exact this
  by_cases hc1 : k + 1 < qs.length ∧ 2 < (qs.getD (k + 1) []).length
  · obtain ⟨hlt, hlen⟩ := hc1
    have hM : mendP qs k = (qs.set k (qs.getD k [] ++ (qs.getD (k + 1) []).take 1)).set (k + 1) ((qs.getD (k + 1) []).drop 1) := by unfold mendP; rw [if_pos ⟨hlt, hlen⟩]
    obtain ⟨P, R, hP, hq⟩ := part2 qs k hlt
    have hy := ho (k + 1) hlt (by omega)
    rw [hM]
    generalize qs[k] = x at *
    generalize qs[k + 1] = y at *
    obtain ⟨hm1, hm2⟩ := hmem P R x y hq (.inl hP.symm)
    subst hP
    subst hq
    rw [get0, get1, set0, set1] at *
    have hl1 : (x ++ y.take 1).length = 2 := by rw [List.length_append, List.length_take]; omega
    refine ⟨?_, by simp, fun l hl => ?_⟩
    · simp only [List.flatten_append, List.flatten_cons]
      rw [List.append_assoc x, ← List.append_assoc (y.take 1), List.take_append_drop]
    · rcases List.mem_append.1 hl with h | h
      · exact hm1 l h
      · rcases List.mem_cons.1 h with rfl | h
        · omega
        · rcases List.mem_cons.1 h with rfl | h
          · rw [List.length_drop]; omega
          · exact hm2 l h
  · by_cases hc2 : 0 < k ∧ 2 < (qs.getD (k - 1) []).length
    · obtain ⟨hpos, hlen⟩ := hc2
      have hM : mendP qs k = (qs.set k ((qs.getD (k - 1) []).drop ((qs.getD (k - 1) []).length - 1) ++ qs.getD k [])).set (k - 1) ((qs.getD (k - 1) []).take ((qs.getD (k - 1) []).length - 1)) := by unfold mendP; rw [if_neg hc1, if_pos ⟨hpos, hlen⟩]
      obtain ⟨j, rfl⟩ : ∃ j, k = j + 1 := ⟨k - 1, by omega⟩
      obtain ⟨P, R, hP, hq⟩ := part2 qs j hk
      have hy := ho j (by omega) (by omega)
      rw [hM]
      simp only [Nat.add_sub_cancel] at hlen ⊢
      clear hc1 hM
      generalize qs[j + 1] = x at *
      generalize qs[j] = y at *
      obtain ⟨hm1, hm2⟩ := hmem P R y x hq (.inr (by omega))
      subst hP
      subst hq
      rw [get0] at hlen
      rw [get0, get1, set1, set0]
      refine ⟨?_, by simp, fun l hl => ?_⟩
      · simp only [List.flatten_append, List.flatten_cons]
        rw [← List.append_assoc (y.take _), ← List.append_assoc (y.take _), List.take_append_drop, List.append_assoc]
      · rcases List.mem_append.1 hl with h | h
        · exact hm1 l h
        · rcases List.mem_cons.1 h with rfl | h
          · rw [List.length_take]; omega
          · rcases List.mem_cons.1 h with rfl | h
            · rw [List.length_append, List.length_drop]; omega
            · exact hm2 l h
    · by_cases hc3 : k + 1 < qs.length
      · have hM : mendP qs k = (qs.set k (qs.getD k [] ++ qs.getD (k + 1) [])).take (k + 1) ++ (qs.set k (qs.getD k [] ++ qs.getD (k + 1) [])).drop (k + 2) := by unfold mendP; rw [if_neg hc1, if_neg hc2, if_pos hc3]
        have hlen : ¬ 2 < (qs.getD (k + 1) []).length := fun h => hc1 ⟨hc3, h⟩
        obtain ⟨P, R, hP, hq⟩ := part2 qs k hc3
        have hy := ho (k + 1) hc3 (by omega)
        rw [hM]
        clear hc1 hc2 hM
        generalize qs[k] = x at *
        generalize qs[k + 1] = y at *
        obtain ⟨hm1, hm2⟩ := hmem P R x y hq (.inl hP.symm)
        subst hP
        subst hq
        rw [get1] at hlen
        rw [get0, get1, set0, take1, drop2]
        refine ⟨by simp, by simp, fun l hl => ?_⟩
        rcases List.mem_append.1 hl with h | h
        · rcases List.mem_append.1 h with h | h
          · exact hm1 l h
          · rw [List.mem_singleton] at h; subst h
            rw [List.length_append]; omega
        · exact hm2 l h
      · have hM : mendP qs k = (qs.set (k - 1) (qs.getD (k - 1) [] ++ qs.getD k [])).take k ++ (qs.set (k - 1) (qs.getD (k - 1) [] ++ qs.getD k [])).drop (k + 1) := by unfold mendP; rw [if_neg hc1, if_neg hc2, if_neg hc3]
        obtain ⟨j, rfl⟩ : ∃ j, k = j + 1 := ⟨k - 1, by omega⟩
        have hlen : ¬ 2 < (qs.getD j []).length := fun h => hc2 ⟨by omega, h⟩
        obtain ⟨P, R, hP, hq⟩ := part2 qs j hk
        have hy := ho j (by omega) (by omega)
        rw [hM]
        simp only [Nat.add_sub_cancel]
        clear hc1 hc2 hM
        generalize qs[j + 1] = x at *
        generalize qs[j] = y at *
        obtain ⟨hm1, hm2⟩ := hmem P R y x hq (.inr (by omega))
        subst hP
        subst hq
        rw [get0] at hlen
        rw [get0, get1, set0, take1, drop2]
        refine ⟨by simp, by simp, fun l hl => ?_⟩
        rcases List.mem_append.1 hl with h | h
        · rcases List.mem_append.1 h with h | h
          · exact hm1 l h
          · rw [List.mem_singleton] at h; subst h
            rw [List.length_append]; omega
        · exact hm2 l h

/-- One entry less. -/
theorem drop_ok {ps : List (List EntD)} {k a : Nat} (hok : OkP ps) (hk : k < ps.length) (ha : a < ps[k].length) :
    OkP (dropPg ps k a) ∧ ∃ A B, ps.flatten = A ++ ps[k][a] :: B ∧ (dropPg ps k a).flatten = A ++ B := by
  have hpw := Ord_pw hok.2.2
  have hg : ps.getD k [] = ps[k] := by simp [List.getD, hk]
  have hs := flat_split ps k hk
  have hpk := pgB_iff.1 (hok.2.1 _ (List.getElem_mem hk))
  obtain ⟨l', hl'⟩ : ∃ l', ps[k].take a ++ ps[k].drop (a + 1) = l' := ⟨_, rfl⟩
  have hll : l'.length = ps[k].length - 1 := by rw [← hl', List.length_append, List.length_take, List.length_drop]; omega
  have hsplit : ps.flatten = ((ps.take k).flatten ++ ps[k].take a) ++ ps[k][a] :: (ps[k].drop (a + 1) ++ (ps.drop (k + 1)).flatten) := by
    rw [hs]
    have h1 : ps[k] = ps[k].take a ++ ps[k][a] :: ps[k].drop (a + 1) := by rw [← List.drop_eq_getElem_cons ha, List.take_append_drop]
    have h2 := congrArg (fun l => (ps.take k).flatten ++ l ++ (ps.drop (k + 1)).flatten) h1
    simp only [List.append_assoc, List.cons_append] at h2 ⊢
    exact h2
  have hset : (ps.set k l').flatten = ((ps.take k).flatten ++ ps[k].take a) ++ (ps[k].drop (a + 1) ++ (ps.drop (k + 1)).flatten) := by
    rw [flat_set ps k l' hk, ← hl']
    simp only [List.append_assoc]
  have hfl : (dropPg ps k a).flatten = (ps.set k l').flatten ∧ (dropPg ps k a).length ≤ ps.length ∧ ∀ l ∈ dropPg ps k a, pgB (dropPg ps k a).length l = true := by
    have hD : dropPg ps k a = if l'.length = 0 then ps.take k ++ ps.drop (k + 1) else if l'.length = 1 ∧ 1 < ps.length then mendP (ps.set k l') k else ps.set k l' := by unfold dropPg; rw [hg, hl']
    by_cases c0 : l'.length = 0
    · rw [hD, if_pos c0]
      have hn : ps.length = 1 := by
        rcases Nat.lt_or_ge 1 ps.length with h | h
        · have := hpk.2.2 h; omega
        · omega
      have hk0 : k = 0 := by omega
      subst hk0
      have e1 : ps.take 0 ++ ps.drop (0 + 1) = [] := by rw [List.take_zero, List.drop_eq_nil_of_le (by omega)]; rfl
      rw [e1]
      refine ⟨?_, Nat.zero_le _, fun l hl => absurd hl (List.not_mem_nil)⟩
      rw [flat_set ps 0 l' hk, List.eq_nil_of_length_eq_zero c0, List.take_zero, List.drop_eq_nil_of_le (by omega)]; rfl
    · by_cases c1 : l'.length = 1 ∧ 1 < ps.length
      · rw [hD, if_neg c0, if_pos c1]
        have hq : (ps.set k l').length = ps.length := List.length_set
        obtain ⟨m1, m2, m3⟩ := mend_ok (qs := ps.set k l') (k := k) (by rw [hq]; exact hk) (by rw [hq]; omega) (fun h => by rw [List.getElem_set_self]; exact c1.1) (fun i h hi => by
          rw [List.getElem_set_ne (fun e => hi e.symm)]
          have := pgB_iff.1 (hok.2.1 _ (List.getElem_mem (show i < ps.length by rw [hq] at h; exact h)))
          have h3 := this.2.2 c1.2
          omega)
        exact ⟨m1, by omega, fun l hl => pgB_iff.2 (by have := m3 l hl; omega)⟩
      · rw [hD, if_neg c0, if_neg c1]
        refine ⟨rfl, by rw [List.length_set]; exact Nat.le_refl _, fun l hl => ?_⟩
        rw [List.length_set]
        rcases List.mem_or_eq_of_mem_set hl with hl | rfl
        · exact hok.2.1 l hl
        · exact pgB_iff.2 (by omega)
  refine ⟨⟨by have := hok.1; omega, hfl.2.2, ?_⟩, _, _, hsplit, hfl.1.trans hset⟩
  rw [hfl.1, hset]
  rw [hsplit] at hpw
  exact pw_Ord (hpw.sublist ((List.Sublist.refl _).append (List.sublist_cons_self _ _)))

def hitB (x y : Int) (e : EntD) : Prop := e.h = x ∧ e.i = y
theorem isAt_iff {x y : Int} {e : EntD} : isAt x y e = true ↔ hitB x y e := by unfold isAt hitB; simp
theorem isAt_no {x y : Int} {e : EntD} (h : isAt x y e = false) : ¬ hitB x y e := fun h' => by rw [isAt_iff.2 h'] at h; cases h
theorem key_one {F : List EntD} (hp : F.Pairwise Rl) {a b : EntD} (ha : a ∈ F) (hb : b ∈ F) (h : a.h = b.h ∧ a.i = b.i) : a = b := by
  obtain ⟨i, hi, rfl⟩ := List.mem_iff_getElem.1 ha
  obtain ⟨j, hj, rfl⟩ := List.mem_iff_getElem.1 hb
  have hpw := List.pairwise_iff_getElem.1 hp
  rcases Nat.lt_trichotomy i j with hlt | rfl | hlt
  · have := Rl_iff.1 (hpw i j hi hj hlt); omega
  · rfl
  · have := Rl_iff.1 (hpw j i hj hi hlt); omega
theorem fnd_mem {ps : List (List EntD)} (hok : OkP ps) {e : EntD} (he : e ∈ ps.flatten) : fndP ps e.h e.i = (e, true) := by
  have hg : pgL ps = ps.flatten := pgL_yes (okPB_iff.2 hok)
  cases hf : ps.flatten.find? (isAt e.h e.i) with
  | none =>
    have := List.find?_eq_none.1 hf e he
    exact absurd (isAt_iff.2 ⟨rfl, rfl⟩) this
  | some x =>
    have hx := isAt_iff.1 (List.find?_some hf)
    have : x = e := key_one (Ord_pw hok.2.2) (List.mem_of_find?_eq_some hf) he hx
    subst this
    exact fndP_some (by rw [hg]; exact hf)
theorem fnd_no {ps : List (List EntD)} (hok : OkP ps) {x y : Int} (h : (fndP ps x y).2 = false) : ∀ e ∈ ps.flatten, ¬ hitB x y e := by
  intro e he hk
  have := fnd_mem hok he
  rw [hk.1, hk.2] at this
  rw [this] at h
  cases h
theorem fnd_yes {ps : List (List EntD)} (hok : OkP ps) {x y : Int} (h : (fndP ps x y).2 = true) : ∃ e ∈ ps.flatten, hitB x y e := by
  have hg : pgL ps = ps.flatten := pgL_yes (okPB_iff.2 hok)
  cases hf : ps.flatten.find? (isAt x y) with
  | none => rw [fndP_none (by rw [hg]; exact hf)] at h; cases h
  | some e => exact ⟨e, List.mem_of_find?_eq_some hf, isAt_iff.1 (List.find?_some hf)⟩
/-- What is wanted stands on the pages. -/
def Inv (ps : List (List EntD)) (W : List EntD) : Prop := OkP ps ∧ W.Perm ps.flatten
theorem inv_nil : Inv [] [] := ⟨⟨by simp, fun l h => absurd h (List.not_mem_nil), pw_Ord .nil⟩, .nil⟩
theorem inv_len {ps : List (List EntD)} {W : List EntD} (h : Inv ps W) : W.length = ps.flatten.length := h.2.length_eq
/-- An entry is taken away. -/
theorem inv_drop {ps ps' : List (List EntD)} {W : List EntD} {x y : Int} {b : Bool} (h : Inv ps W) (hd : DropP ps x y ps' b) :
    (b = false ∧ ps' = ps ∧ ∀ e ∈ W, ¬ hitB x y e) ∨ (b = true ∧ (∃ e ∈ W, hitB x y e) ∧ ∀ (i : Nat) (hi : i < W.length), hitB x y W[i] → Inv ps' (W.take i ++ W.drop (i + 1))) := by
  rcases hd with ⟨rfl, rfl, hno⟩ | ⟨rfl, k, a, hk, ha, hat, rfl⟩
  · refine .inl ⟨rfl, rfl, fun e he => ?_⟩
    obtain ⟨l, hl, hel⟩ := List.mem_flatten.1 ((h.2.mem_iff).1 he)
    exact isAt_no (hno l hl e hel)
  · obtain ⟨hok', A, B, hF, hF'⟩ := drop_ok h.1 hk ha
    have hkey := isAt_iff.1 hat
    generalize ps[k][a] = z at *
    have hz : z ∈ ps.flatten := by rw [hF]; simp
    refine .inr ⟨rfl, ⟨z, (h.2.mem_iff).2 hz, hkey⟩, fun i hi hki => ⟨hok', ?_⟩⟩
    have hWz : W[i] = z := key_one (Ord_pw h.1.2.2) ((h.2.mem_iff).1 (List.getElem_mem hi)) hz ⟨hki.1.trans hkey.1.symm, hki.2.trans hkey.2.symm⟩
    have h1 : W.Perm (W[i] :: (W.take i ++ W.drop (i + 1))) := by
      have h2 : W = W.take i ++ W[i] :: W.drop (i + 1) := by rw [← List.drop_eq_getElem_cons hi, List.take_append_drop]
      exact (List.Perm.of_eq h2).trans List.perm_middle
    have h3 : (A ++ z :: B).Perm (z :: (A ++ B)) := List.perm_middle
    have h4 : (z :: (W.take i ++ W.drop (i + 1))).Perm (z :: (A ++ B)) := by
      rw [← hWz]
      refine h1.symm.trans (h.2.trans ?_)
      rw [hF, hWz]; exact h3
    rw [hF']
    exact h4.cons_inv
/-- An entry is put on them. -/
theorem inv_add {ps ps' : List (List EntD)} {W : List EntD} {e : EntD} {b : Bool} (h : Inv ps W) (ha : addPg ps e = (ps', b)) :
    (b = true ∧ (∀ x ∈ W, ¬ hitB e.h e.i x) ∧ Inv ps' (W ++ [e])) ∨ (b = false ∧ ps' = ps ∧ ((∀ x ∈ W, ¬ hitB e.h e.i x) → ¬ ps.length < 8)) := by
  cases hf : (fndP ps e.h e.i).2 with
  | true =>
    rw [addPg_found hf] at ha
    injection ha with h1 h2
    subst h1 h2
    refine .inr ⟨rfl, rfl, fun hno => ?_⟩
    obtain ⟨x, hx, hk⟩ := fnd_yes h.1 hf
    exact absurd hk (hno x ((h.2.mem_iff).2 hx))
  | false =>
    have hno := fnd_no h.1 hf
    have hnoW : ∀ x ∈ W, ¬ hitB e.h e.i x := fun x hx => hno x ((h.2.mem_iff).1 hx)
    by_cases h0 : ps.length = 0
    · rw [addPg_nil hf h0] at ha
      injection ha with h1 h2
      subst h1 h2
      have hp : ps = [] := List.eq_nil_of_length_eq_zero h0
      subst hp
      have hW : W = [] := List.Perm.eq_nil h.2
      subst hW
      exact .inl ⟨rfl, hnoW, ⟨by simp, fun l hl => by rw [List.mem_singleton] at hl; subst hl; exact pgB_iff.2 (by simp), pw_Ord (by simp)⟩, by simp⟩
    · by_cases h8 : 8 < (partP ps (kAt e ps ps.length) (putE e (ps.getD (kAt e ps ps.length) []))).length
      · rw [addPg_full hf h0 rfl rfl h8] at ha
        injection ha with h1 h2
        subst h1 h2
        refine .inr ⟨rfl, rfl, fun _ => ?_⟩
        have hk := kAt_lt e ps ps.length (by omega)
        unfold partP at h8
        split at h8
        · rw [List.length_append, List.length_cons, List.length_cons, List.length_take, List.length_drop] at h8
          omega
        · rw [List.length_set] at h8; omega
      · rw [addPg_yes hf h0 rfl rfl h8] at ha
        injection ha with h1 h2
        subst h1 h2
        obtain ⟨A, B, hF, hF', _⟩ := add_flat h.1 h0 hno
        refine .inl ⟨rfl, hnoW, add_ok h.1 h0 hno h8, ?_⟩
        rw [hF']
        have h3 : (W ++ [e]).Perm (e :: W) := List.perm_append_comm (l₁ := W) (l₂ := [e])
        refine h3.trans (((List.perm_cons e).2 h.2).trans ?_)
        rw [hF]
        exact List.perm_middle.symm
/-- Where an entry stands among the wanted: the last place. -/
def HereR (W : List EntD) (x y : Int) (j : Nat) (r : Int) : Prop := (r = -1 ∧ ∀ (i : Nat) (h : i < W.length), i < j → ¬ hitB x y W[i]) ∨ ∃ i, ∃ h : i < W.length, r = (i : Int) ∧ hitB x y W[i]
theorem here_no {W : List EntD} {x y : Int} {r : Int} (h : HereR W x y W.length r) (hr : r < 0) : ∀ e ∈ W, ¬ hitB x y e := by
  intro e he
  obtain ⟨i, hi, rfl⟩ := List.mem_iff_getElem.1 he
  rcases h with ⟨_, h⟩ | ⟨k, hk, rfl, _⟩
  · exact h i hi hi
  · omega
theorem here_yes {W : List EntD} {x y : Int} {j : Nat} {r : Int} (h : HereR W x y j r) (hr : ¬ r < 0) : ∃ i, ∃ h : i < W.length, r = (i : Int) ∧ hitB x y W[i] := by
  rcases h with ⟨rfl, _⟩ | h
  · omega
  · exact h

end Go.Proofs.YtbchbmcphbeikaaGreatDoor
