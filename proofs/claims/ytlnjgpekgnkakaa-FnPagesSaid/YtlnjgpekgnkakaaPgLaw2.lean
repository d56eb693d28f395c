/- Pages stay right. Plain Lean. -/
import Derived.Test.YtlnjgpekgnkakaaPgLaw
namespace Go.Proofs.Ytlnjgpekgnkakaa
open Go Go.RowKit

theorem add_ok {ps : List (List EntD)} {e : EntD} (hok : OkP ps) (h0 : ps.length ≠ 0) (hne : ∀ x ∈ ps.flatten, ¬ (x.h = e.h ∧ x.i = e.i))
    (h8 : ¬ 8 < (partP ps (kAt e ps ps.length) (putE e (ps.getD (kAt e ps ps.length) []))).length) : OkP (partP ps (kAt e ps ps.length) (putE e (ps.getD (kAt e ps ps.length) []))) := by
  obtain ⟨A, B, _, hf, hp⟩ := add_flat hok h0 hne
  refine ⟨by omega, fun l hl => ?_, by rw [hf]; exact pw_Ord hp⟩
  have hk := kAt_lt e ps ps.length (by omega)
  obtain ⟨k, hkk⟩ : ∃ k, kAt e ps ps.length = k := ⟨_, rfl⟩
  rw [hkk] at hk hl ⊢
  have hg : ps.getD k [] = ps[k] := by simp [List.getD, hk]
  rw [hg] at hl ⊢
  have hpk := pgB_iff.1 (hok.2.1 _ (List.getElem_mem hk))
  have hpl := putE_len e ps[k]
  have hold : ∀ x ∈ ps, 1 < ps.length → pgB 2 x = true := fun x hx h => by
    have := pgB_iff.1 (hok.2.1 x hx)
    exact pgB_iff.2 ⟨this.1, this.2.1, fun _ => this.2.2 h⟩
  have hmono : ∀ m, pgB 2 l = true → pgB m l = true := fun m h => by
    have := pgB_iff.1 h
    exact pgB_iff.2 ⟨this.1, this.2.1, fun _ => this.2.2 (by omega)⟩
  unfold partP at hl ⊢
  split at hl
  · rename_i h4
    have hlen : (ps.take k ++ (putE e ps[k]).take 3 :: (putE e ps[k]).drop 3 :: ps.drop (k + 1)).length = ps.length + 1 := by
      rw [List.length_append, List.length_cons, List.length_cons, List.length_take, List.length_drop]; omega
    apply hmono
    have hn1 : ∀ x, x ∈ ps.take k ∨ x ∈ ps.drop (k + 1) → 1 < ps.length := fun x hx => by
      rcases hx with hx | hx
      · have := List.length_pos_of_mem hx; rw [List.length_take] at this; omega
      · have := List.length_pos_of_mem hx; rw [List.length_drop] at this; omega
    rcases List.mem_append.1 hl with hx | hx
    · exact hold l (List.mem_of_mem_take hx) (hn1 l (.inl hx))
    · rcases List.mem_cons.1 hx with rfl | hx
      · exact pgB_iff.2 (by rw [List.length_take]; omega)
      · rcases List.mem_cons.1 hx with rfl | hx
        · exact pgB_iff.2 (by rw [List.length_drop]; omega)
        · exact hold l (List.mem_of_mem_drop hx) (hn1 l (.inr hx))
  · rename_i h4
    rw [if_neg h4, List.length_set]
    rcases List.mem_or_eq_of_mem_set hl with hx | rfl
    · exact hok.2.1 l hx
    · exact pgB_iff.2 (by omega)

/-! ### A page of one entry, mended -/
theorem set0 {α : Type} (P R : List α) (x y : α) : (P ++ x :: R).set P.length y = P ++ y :: R := by rw [List.set_append_right _ _ (Nat.le_refl _), Nat.sub_self]; rfl
theorem set1 {α : Type} (P R : List α) (x y z : α) : (P ++ x :: z :: R).set (P.length + 1) y = P ++ x :: y :: R := by rw [List.set_append_right _ _ (by omega), show P.length + 1 - P.length = 1 by omega]; rfl
theorem get0 (P R : List (List EntD)) (x : List EntD) : (P ++ x :: R).getD P.length [] = x := by
  rw [List.getD_eq_getElem?_getD, List.getElem?_append_right (Nat.le_refl _), Nat.sub_self]; rfl
theorem get1 (P R : List (List EntD)) (x y : List EntD) : (P ++ x :: y :: R).getD (P.length + 1) [] = y := by
  rw [List.getD_eq_getElem?_getD, List.getElem?_append_right (by omega), show P.length + 1 - P.length = 1 by omega]; rfl
theorem take1 {α : Type} (P R : List α) (x : α) : (P ++ x :: R).take (P.length + 1) = P ++ [x] := by
  rw [List.take_append, List.take_of_length_le (by omega), show P.length + 1 - P.length = 1 by omega]; rfl
theorem drop2 {α : Type} (P R : List α) (x y : α) : (P ++ x :: y :: R).drop (P.length + 2) = R := by
  rw [List.drop_append, List.drop_eq_nil_of_le (by omega), show P.length + 2 - P.length = 2 by omega]; rfl
theorem part2 {α : Type} (L : List α) (k : Nat) (h : k + 1 < L.length) : ∃ P R, P.length = k ∧ L = P ++ L[k] :: L[k + 1] :: R :=
  ⟨L.take k, L.drop (k + 2), by rw [List.length_take]; omega, by rw [← List.drop_eq_getElem_cons h, ← List.drop_eq_getElem_cons (by omega), List.take_append_drop]⟩
theorem take0 {α : Type} (P R : List α) : (P ++ R).take P.length = P := List.take_left
/-- Pages each of which, but the one at a place, is half full, are so altogether when that one is mended; what stands in them is the same. -/
theorem mend_ok {qs : List (List EntD)} {k : Nat} (hk : k < qs.length) (h2 : 2 ≤ qs.length) (h1 : ∀ (h : k < qs.length), qs[k].length = 1) (ho : ∀ (i : Nat) (h : i < qs.length), i ≠ k → 2 ≤ qs[i].length ∧ qs[i].length ≤ 4) :
    (mendP qs k).flatten = qs.flatten ∧ (mendP qs k).length ≤ qs.length ∧ ∀ l ∈ mendP qs k, 2 ≤ l.length ∧ l.length ≤ 4 := by
  have hx1 := h1 hk
  have hmem : ∀ (P R : List (List EntD)) (x y : List EntD), qs = P ++ x :: y :: R → (k = P.length ∨ k = P.length + 1) → (∀ l ∈ P, 2 ≤ l.length ∧ l.length ≤ 4) ∧ ∀ l ∈ R, 2 ≤ l.length ∧ l.length ≤ 4 := by
    intro P R x y hq hkk
    subst hq
    constructor
    · intro l hl
      obtain ⟨i, hi, rfl⟩ := List.mem_iff_getElem.1 hl
      have := ho i (by rw [List.length_append]; omega) (by omega)
      rwa [List.getElem_append_left hi] at this
    · intro l hl
      obtain ⟨i, hi, rfl⟩ := List.mem_iff_getElem.1 hl
      have := ho (P.length + 2 + i) (by rw [List.length_append, List.length_cons, List.length_cons]; omega) (by omega)
      rw [List.getElem_append_right (by omega)] at this
      simp only [show P.length + 2 + i - P.length = i + 2 by omega, List.getElem_cons_succ] at this
      exact this
  by_cases hc1 : k + 1 < qs.length ∧ 2 < (qs.getD (k + 1) []).length
  · obtain ⟨hlt, hlen⟩ := hc1
    have hM : mendP qs k = (qs.set k (qs.getD k [] ++ (qs.getD (k + 1) []).take 1)).set (k + 1) ((qs.getD (k + 1) []).drop 1) := by unfold mendP; rw [if_pos ⟨hlt, hlen⟩]
    obtain ⟨P, R, hP, hq⟩ := part2 qs k hlt
    have hy := ho (k + 1) hlt (by omega)
    rw [hM]
    generalize qs[k] = x at *
    generalize qs[k + 1] = y at *
    obtain ⟨hm1, hm2⟩ := hmem P R x y hq (.inl hP.symm)
    subst hP
    subst hq
    rw [get0, get1, set0, set1] at *
    have hl1 : (x ++ y.take 1).length = 2 := by rw [List.length_append, List.length_take]; omega
    refine ⟨?_, by simp, fun l hl => ?_⟩
    · simp only [List.flatten_append, List.flatten_cons]
      rw [List.append_assoc x, ← List.append_assoc (y.take 1), List.take_append_drop]
    · rcases List.mem_append.1 hl with h | h
      · exact hm1 l h
      · rcases List.mem_cons.1 h with rfl | h
        · omega
        · rcases List.mem_cons.1 h with rfl | h
          · rw [List.length_drop]; omega
          · exact hm2 l h
  · by_cases hc2 : 0 < k ∧ 2 < (qs.getD (k - 1) []).length
    · obtain ⟨hpos, hlen⟩ := hc2
      have hM : mendP qs k = (qs.set k ((qs.getD (k - 1) []).drop ((qs.getD (k - 1) []).length - 1) ++ qs.getD k [])).set (k - 1) ((qs.getD (k - 1) []).take ((qs.getD (k - 1) []).length - 1)) := by unfold mendP; rw [if_neg hc1, if_pos ⟨hpos, hlen⟩]
      obtain ⟨j, rfl⟩ : ∃ j, k = j + 1 := ⟨k - 1, by omega⟩
      obtain ⟨P, R, hP, hq⟩ := part2 qs j hk
      have hy := ho j (by omega) (by omega)
      rw [hM]
      simp only [Nat.add_sub_cancel] at hlen ⊢
      clear hc1 hM
      generalize qs[j + 1] = x at *
      generalize qs[j] = y at *
      obtain ⟨hm1, hm2⟩ := hmem P R y x hq (.inr (by omega))
      subst hP
      subst hq
      rw [get0] at hlen
      rw [get0, get1, set1, set0]
      refine ⟨?_, by simp, fun l hl => ?_⟩
      · simp only [List.flatten_append, List.flatten_cons]
        rw [← List.append_assoc (y.take _), ← List.append_assoc (y.take _), List.take_append_drop, List.append_assoc]
      · rcases List.mem_append.1 hl with h | h
        · exact hm1 l h
        · rcases List.mem_cons.1 h with rfl | h
          · rw [List.length_take]; omega
          · rcases List.mem_cons.1 h with rfl | h
            · rw [List.length_append, List.length_drop]; omega
            · exact hm2 l h
    · by_cases hc3 : k + 1 < qs.length
      · have hM : mendP qs k = (qs.set k (qs.getD k [] ++ qs.getD (k + 1) [])).take (k + 1) ++ (qs.set k (qs.getD k [] ++ qs.getD (k + 1) [])).drop (k + 2) := by unfold mendP; rw [if_neg hc1, if_neg hc2, if_pos hc3]
        have hlen : ¬ 2 < (qs.getD (k + 1) []).length := fun h => hc1 ⟨hc3, h⟩
        obtain ⟨P, R, hP, hq⟩ := part2 qs k hc3
        have hy := ho (k + 1) hc3 (by omega)
        rw [hM]
        clear hc1 hc2 hM
        generalize qs[k] = x at *
        generalize qs[k + 1] = y at *
        obtain ⟨hm1, hm2⟩ := hmem P R x y hq (.inl hP.symm)
        subst hP
        subst hq
        rw [get1] at hlen
        rw [get0, get1, set0, take1, drop2]
        refine ⟨by simp, by simp, fun l hl => ?_⟩
        rcases List.mem_append.1 hl with h | h
        · rcases List.mem_append.1 h with h | h
          · exact hm1 l h
          · rw [List.mem_singleton] at h; subst h
            rw [List.length_append]; omega
        · exact hm2 l h
      · have hM : mendP qs k = (qs.set (k - 1) (qs.getD (k - 1) [] ++ qs.getD k [])).take k ++ (qs.set (k - 1) (qs.getD (k - 1) [] ++ qs.getD k [])).drop (k + 1) := by unfold mendP; rw [if_neg hc1, if_neg hc2, if_neg hc3]
        obtain ⟨j, rfl⟩ : ∃ j, k = j + 1 := ⟨k - 1, by omega⟩
        have hlen : ¬ 2 < (qs.getD j []).length := fun h => hc2 ⟨by omega, h⟩
        obtain ⟨P, R, hP, hq⟩ := part2 qs j hk
        have hy := ho j (by omega) (by omega)
        rw [hM]
        simp only [Nat.add_sub_cancel]
        clear hc1 hc2 hM
        generalize qs[j + 1] = x at *
        generalize qs[j] = y at *
        obtain ⟨hm1, hm2⟩ := hmem P R y x hq (.inr (by omega))
        subst hP
        subst hq
        rw [get0] at hlen
        rw [get0, get1, set0, take1, drop2]
        refine ⟨by simp, by simp, fun l hl => ?_⟩
        rcases List.mem_append.1 hl with h | h
        · rcases List.mem_append.1 h with h | h
          · exact hm1 l h
          · rw [List.mem_singleton] at h; subst h
            rw [List.length_append]; omega
        · exact hm2 l h

/-- One entry less. -/
theorem drop_ok {ps : List (List EntD)} {k a : Nat} (hok : OkP ps) (hk : k < ps.length) (ha : a < ps[k].length) :
    OkP (dropP ps k a) ∧ ∃ A B, ps.flatten = A ++ ps[k][a] :: B ∧ (dropP ps k a).flatten = A ++ B := by
  have hpw := Ord_pw hok.2.2
  have hg : ps.getD k [] = ps[k] := by simp [List.getD, hk]
  have hs := flat_split ps k hk
  have hpk := pgB_iff.1 (hok.2.1 _ (List.getElem_mem hk))
  obtain ⟨l', hl'⟩ : ∃ l', ps[k].take a ++ ps[k].drop (a + 1) = l' := ⟨_, rfl⟩
  have hll : l'.length = ps[k].length - 1 := by rw [← hl', List.length_append, List.length_take, List.length_drop]; omega
  have hsplit : ps.flatten = ((ps.take k).flatten ++ ps[k].take a) ++ ps[k][a] :: (ps[k].drop (a + 1) ++ (ps.drop (k + 1)).flatten) := by
    rw [hs]
    have h1 : ps[k] = ps[k].take a ++ ps[k][a] :: ps[k].drop (a + 1) := by rw [← List.drop_eq_getElem_cons ha, List.take_append_drop]
    have h2 := congrArg (fun l => (ps.take k).flatten ++ l ++ (ps.drop (k + 1)).flatten) h1
    simp only [List.append_assoc, List.cons_append] at h2 ⊢
    exact h2
  have hset : (ps.set k l').flatten = ((ps.take k).flatten ++ ps[k].take a) ++ (ps[k].drop (a + 1) ++ (ps.drop (k + 1)).flatten) := by
    rw [flat_set ps k l' hk, ← hl']
    simp only [List.append_assoc]
  have hfl : (dropP ps k a).flatten = (ps.set k l').flatten ∧ (dropP ps k a).length ≤ ps.length ∧ ∀ l ∈ dropP ps k a, pgB (dropP ps k a).length l = true := by
    have hD : dropP ps k a = if l'.length = 0 then ps.take k ++ ps.drop (k + 1) else if l'.length = 1 ∧ 1 < ps.length then mendP (ps.set k l') k else ps.set k l' := by unfold dropP; rw [hg, hl']
    by_cases c0 : l'.length = 0
    · rw [hD, if_pos c0]
      have hn : ps.length = 1 := by
        rcases Nat.lt_or_ge 1 ps.length with h | h
        · have := hpk.2.2 h; omega
        · omega
      have hk0 : k = 0 := by omega
      subst hk0
      have e1 : ps.take 0 ++ ps.drop (0 + 1) = [] := by rw [List.take_zero, List.drop_eq_nil_of_le (by omega)]; rfl
      rw [e1]
      refine ⟨?_, Nat.zero_le _, fun l hl => absurd hl (List.not_mem_nil)⟩
      rw [flat_set ps 0 l' hk, List.eq_nil_of_length_eq_zero c0, List.take_zero, List.drop_eq_nil_of_le (by omega)]; rfl
    · by_cases c1 : l'.length = 1 ∧ 1 < ps.length
      · rw [hD, if_neg c0, if_pos c1]
        have hq : (ps.set k l').length = ps.length := List.length_set
        obtain ⟨m1, m2, m3⟩ := mend_ok (qs := ps.set k l') (k := k) (by rw [hq]; exact hk) (by rw [hq]; omega) (fun h => by rw [List.getElem_set_self]; exact c1.1) (fun i h hi => by
          rw [List.getElem_set_ne (fun e => hi e.symm)]
          have := pgB_iff.1 (hok.2.1 _ (List.getElem_mem (show i < ps.length by rw [hq] at h; exact h)))
          have h3 := this.2.2 c1.2
          omega)
        exact ⟨m1, by omega, fun l hl => pgB_iff.2 (by have := m3 l hl; omega)⟩
      · rw [hD, if_neg c0, if_neg c1]
        refine ⟨rfl, by rw [List.length_set]; exact Nat.le_refl _, fun l hl => ?_⟩
        rw [List.length_set]
        rcases List.mem_or_eq_of_mem_set hl with hl | rfl
        · exact hok.2.1 l hl
        · exact pgB_iff.2 (by omega)
  refine ⟨⟨by have := hok.1; omega, hfl.2.2, ?_⟩, _, _, hsplit, hfl.1.trans hset⟩
  rw [hfl.1, hset]
  rw [hsplit] at hpw
  exact pw_Ord (hpw.sublist ((List.Sublist.refl _).append (List.sublist_cons_self _ _)))

end Go.Proofs.Ytlnjgpekgnkakaa
