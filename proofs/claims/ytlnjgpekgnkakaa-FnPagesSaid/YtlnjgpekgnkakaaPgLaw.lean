/- Pages have just what was put on them and not taken away, in order, each at least half full. Plain Lean. -/
import Derived.Test.YtlnjgpekgnkakaaPgP
import Derived.Test.YtlnjgpekgnkakaaPgDrp
namespace Go.Proofs.Ytlnjgpekgnkakaa
open Go Go.RowKit

/-- One entry is ahead of another. -/
def Rl (a b : EntD) : Prop := behB b a.h a.i = true
theorem Rl_iff {a b : EntD} : Rl a b ↔ a.h < b.h ∨ (b.h = a.h ∧ a.i < b.i) := by
  unfold Rl behB
  rw [Bool.or_eq_true, Bool.and_eq_true, decide_eq_true_eq, decide_eq_true_eq, decide_eq_true_eq]
theorem Rl_trans {a b c : EntD} (h1 : Rl a b) (h2 : Rl b c) : Rl a c := by
  rw [Rl_iff] at *
  omega
theorem Rl_tri {a b : EntD} (h : behB b a.h a.i = false) (hne : ¬ (a.h = b.h ∧ a.i = b.i)) : Rl b a := by
  have h1 : ¬ Rl a b := fun h' => by unfold Rl at h'; rw [h] at h'; cases h'
  rw [Rl_iff] at *
  omega
theorem Ord_pw : ∀ {l : List EntD}, Ord l → l.Pairwise Rl
  | [], _ => .nil
  | [a], _ => by simp
  | a :: b :: l, h => by
    have h2 : Ord (b :: l) := fun i hi => h (i + 1) (by simpa using hi)
    have h3 := Ord_pw h2
    have hab : Rl a b := h 0 (by simp)
    refine List.pairwise_cons.2 ⟨fun x hx => ?_, h3⟩
    rcases List.mem_cons.1 hx with rfl | hx
    · exact hab
    · exact Rl_trans hab ((List.pairwise_cons.1 h3).1 x hx)
theorem pw_Ord {l : List EntD} (h : l.Pairwise Rl) : Ord l := fun i hi => List.pairwise_iff_getElem.1 h i (i + 1) (by omega) hi (by omega)
/-- A page's size. -/
theorem pgB_iff {m : Nat} {l : List EntD} : pgB m l = true ↔ 1 ≤ l.length ∧ l.length ≤ 4 ∧ (1 < m → 2 ≤ l.length) := by
  unfold pgB
  rw [Bool.and_eq_true, inI_true]
  constructor
  · rintro ⟨h1, h2⟩
    refine ⟨by omega, by omega, fun hm => ?_⟩
    rw [Bool.not_eq_true', Bool.and_eq_false_iff, decide_eq_false_iff_not, decide_eq_false_iff_not] at h2
    omega
  · rintro ⟨h1, h2, h3⟩
    refine ⟨by omega, ?_⟩
    rw [Bool.not_eq_true', Bool.and_eq_false_iff, decide_eq_false_iff_not, decide_eq_false_iff_not]
    omega
theorem flat_split (ps : List (List EntD)) (k : Nat) (h : k < ps.length) : ps.flatten = (ps.take k).flatten ++ ps[k] ++ (ps.drop (k + 1)).flatten := by
  have h1 : ps = ps.take k ++ ps[k] :: ps.drop (k + 1) := by rw [← List.drop_eq_getElem_cons h, List.take_append_drop]
  have h2 := congrArg List.flatten h1
  rw [List.flatten_append, List.flatten_cons, ← List.append_assoc] at h2
  exact h2
theorem flat_set (ps : List (List EntD)) (k : Nat) (l : List EntD) (h : k < ps.length) : (ps.set k l).flatten = (ps.take k).flatten ++ l ++ (ps.drop (k + 1)).flatten := by
  rw [List.set_eq_take_append_cons_drop, if_pos h]
  simp
theorem flat_part (ps : List (List EntD)) (k : Nat) (l : List EntD) (h : k < ps.length) : (partP ps k l).flatten = (ps.take k).flatten ++ l ++ (ps.drop (k + 1)).flatten := by
  unfold partP
  split
  · simp only [List.flatten_append, List.flatten_cons]
    rw [List.append_assoc, ← List.append_assoc (l.take 3), List.take_append_drop]
  · exact flat_set ps k l h
theorem atL_take (e : EntD) : ∀ (l : List EntD), ∀ x ∈ l.take (atL e l), Rl x e
  | [], x, h => by simp at h
  | y :: r, x, h => by
    rw [atL] at h
    cases hb : behB e y.h y.i with
    | false => rw [hb] at h; simp at h
    | true =>
      rw [hb] at h
      simp only [cond_true, List.take_succ_cons, List.mem_cons] at h
      rcases h with rfl | h
      · exact hb
      · exact atL_take e r x h
theorem atL_drop (e : EntD) : ∀ (l : List EntD), l.Pairwise Rl → (∀ x ∈ l, ¬ (x.h = e.h ∧ x.i = e.i)) → ∀ x ∈ l.drop (atL e l), Rl e x
  | [], _, _, x, h => by simp at h
  | y :: r, hp, hne, x, h => by
    rw [atL] at h
    cases hb : behB e y.h y.i with
    | false =>
      rw [hb] at h
      simp only [cond_false, List.drop_zero] at h
      have h1 : Rl e y := Rl_tri hb (hne y (by simp))
      rcases List.mem_cons.1 h with rfl | h
      · exact h1
      · exact Rl_trans h1 ((List.pairwise_cons.1 hp).1 x h)
    | true =>
      rw [hb] at h
      simp only [cond_true, List.drop_succ_cons] at h
      exact atL_drop e r (List.pairwise_cons.1 hp).2 (fun x hx => hne x (by simp [hx])) x h
theorem kAt_hit (e : EntD) (ps : List (List EntD)) : ∀ n, 0 < kAt e ps n → behB e (fstE (ps.getD (kAt e ps n) [])).h (fstE (ps.getD (kAt e ps n) [])).i = true
  | 0, h => by simp [kAt] at h
  | n + 1, h => by
    rw [kAt] at h ⊢
    cases hb : behB e (fstE (ps.getD n [])).h (fstE (ps.getD n [])).i with
    | true => exact hb
    | false => rw [hb] at h; exact kAt_hit e ps n h
theorem kAt_miss (e : EntD) (ps : List (List EntD)) : ∀ n j, kAt e ps n < j → j < n → behB e (fstE (ps.getD j [])).h (fstE (ps.getD j [])).i = false
  | 0, _, _, h => by omega
  | n + 1, j, h1, h2 => by
    rw [kAt] at h1
    cases hb : behB e (fstE (ps.getD n [])).h (fstE (ps.getD n [])).i with
    | true => rw [hb] at h1; simp only [cond_true] at h1; omega
    | false =>
      rw [hb] at h1
      by_cases hj : j = n
      · subst hj; exact hb
      · exact kAt_miss e ps n j h1 (by omega)
theorem fst_mem {l : List EntD} (h : 1 ≤ l.length) : ∃ r, l = fstE l :: r := by
  cases l with
  | nil => simp at h
  | cons a r => exact ⟨r, rfl⟩

/-- One more entry stands in its place. -/
theorem add_flat {ps : List (List EntD)} {e : EntD} (hok : OkP ps) (h0 : ps.length ≠ 0) (hne : ∀ x ∈ ps.flatten, ¬ (x.h = e.h ∧ x.i = e.i)) :
    ∃ A B, ps.flatten = A ++ B ∧ (partP ps (kAt e ps ps.length) (putE e (ps.getD (kAt e ps ps.length) []))).flatten = A ++ e :: B ∧ (A ++ e :: B).Pairwise Rl := by
  have hpw := Ord_pw hok.2.2
  have hk := kAt_lt e ps ps.length (by omega)
  have hhit := kAt_hit e ps ps.length
  have hmiss := kAt_miss e ps ps.length
  obtain ⟨k, hkk⟩ : ∃ k, kAt e ps ps.length = k := ⟨_, rfl⟩
  rw [hkk] at hk hhit hmiss ⊢
  have hg : ps.getD k [] = ps[k] := by simp [List.getD, hk]
  rw [hg] at hhit ⊢
  have hsz : ∀ l ∈ ps, 1 ≤ l.length := fun l hl => (pgB_iff.1 (hok.2.1 l hl)).1
  have hs := flat_split ps k hk
  have hf := flat_part ps k (putE e ps[k]) hk
  have hT : (ps.drop (k + 1)).flatten = [] ∨ ∃ x r, (ps.drop (k + 1)).flatten = x :: r ∧ behB e x.h x.i = false := by
    by_cases h : k + 1 < ps.length
    · right
      have h1 := hmiss (k + 1) (by omega) h
      rw [show ps.getD (k + 1) [] = ps[k + 1] by simp [List.getD, h]] at h1
      obtain ⟨r, hr⟩ := fst_mem (hsz _ (List.getElem_mem h))
      rw [List.drop_eq_getElem_cons h, List.flatten_cons]
      generalize fstE ps[k + 1] = f at h1 hr
      rw [hr]
      exact ⟨f, _, rfl, h1⟩
    · left
      rw [List.drop_eq_nil_of_le (by omega)]; rfl
  have hH : (ps.take k).flatten = [] ∨ ∃ f r, ps[k] = f :: r ∧ behB e f.h f.i = true := by
    rcases Nat.eq_zero_or_pos k with h | h
    · left; subst h; rfl
    · right
      have h1 := hhit h
      obtain ⟨r, hr⟩ := fst_mem (hsz _ (List.getElem_mem hk))
      exact ⟨fstE ps[k], r, hr, h1⟩
  generalize (ps.take k).flatten = P at *
  generalize (ps.drop (k + 1)).flatten = Q at *
  generalize ps[k] = l at *
  rw [hs] at hpw hne
  obtain ⟨hpl, hQ, hcross⟩ := List.pairwise_append.1 hpw
  obtain ⟨hP, hl, hcross2⟩ := List.pairwise_append.1 hpl
  have a1 : ∀ x ∈ P, Rl x e := by
    intro x hx
    rcases hH with rfl | ⟨f, r, hfr, hb⟩
    · cases hx
    · exact Rl_trans (hcross2 x hx f (by rw [hfr]; simp)) hb
  have a2 := atL_take e l
  have a3 := atL_drop e l hl (fun x hx => hne x (by simp [hx]))
  have a4 : ∀ x ∈ Q, Rl e x := by
    intro x hx
    rcases hT with rfl | ⟨f, r, rfl, hb⟩
    · cases hx
    · have h1 : Rl e f := Rl_tri hb (hne f (by simp))
      rcases List.mem_cons.1 hx with rfl | hx
      · exact h1
      · exact Rl_trans h1 ((List.pairwise_cons.1 hQ).1 x hx)
  refine ⟨P ++ l.take (atL e l), l.drop (atL e l) ++ Q, ?_, ?_, ?_⟩
  · rw [hs, List.append_assoc, List.append_assoc, ← List.append_assoc (l.take _), List.take_append_drop]
  · rw [hf]; unfold putE; simp
  · have hall : (P ++ l.take (atL e l) ++ (l.drop (atL e l) ++ Q)).Pairwise Rl := by
      have : P ++ l.take (atL e l) ++ (l.drop (atL e l) ++ Q) = P ++ l ++ Q := by
        rw [List.append_assoc, List.append_assoc, ← List.append_assoc (l.take _), List.take_append_drop]
      rw [this]; exact hpw
    obtain ⟨h1, h2, h3⟩ := List.pairwise_append.1 hall
    refine List.pairwise_append.2 ⟨h1, List.pairwise_cons.2 ⟨fun x hx => ?_, h2⟩, fun x hx y hy => ?_⟩
    · rcases List.mem_append.1 hx with hx | hx
      · exact a3 x hx
      · exact a4 x hx
    · rcases List.mem_cons.1 hy with rfl | hy
      · rcases List.mem_append.1 hx with hx | hx
        · exact a1 x hx
        · exact a2 x hx
      · exact h3 x hx y hy

end Go.Proofs.Ytlnjgpekgnkakaa
