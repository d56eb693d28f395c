/- Of a ring those are read that stand side by side up to the newest one; one more is read as the newest. Plain Lean. -/
import Derived.Test.YtgbgfgkgkbnflaaRgP
namespace Go.Proofs.Ytgbgfgkgkbnflaa
open Go Go.RowKit

/-- How many stand below a number, one by one. -/
def cnt (L : List ByteArray) : Nat → Int → Nat
  | 0, _ => 0
  | k + 1, q => cond (recAtB L q) (cnt L k (q - 1) + 1) 0
def seg (L : List ByteArray) : Nat → Int → List (Int × ByteArray)
  | 0, _ => []
  | n + 1, q => seg L n (q - 1) ++ [(q, txtAt L q)]
theorem downF_seg (L : List ByteArray) : ∀ (k : Nat) (q : Int) (acc : List (Int × ByteArray)), downF L k q acc = seg L (cnt L k q) q ++ acc
  | 0, _, acc => rfl
  | k + 1, q, acc => by
    rw [downF, cnt]
    cases recAtB L q with
    | false => rfl
    | true =>
      show downF L k (q - 1) ((q, txtAt L q) :: acc) = seg L (cnt L k (q - 1) + 1) q ++ acc
      rw [downF_seg L k, seg, List.append_assoc]; rfl
theorem seg_len (L : List ByteArray) : ∀ (n : Nat) (q : Int), (seg L n q).length = n
  | 0, _ => rfl
  | n + 1, q => by rw [seg, List.length_append, seg_len L n]; rfl
theorem seg_at (L : List ByteArray) : ∀ (n : Nat) (q : Int) (i : Nat) (h : i < (seg L n q).length), (seg L n q)[i] = (q - n + 1 + i, txtAt L (q - n + 1 + i))
  | 0, _, i, h => by simp [seg] at h
  | n + 1, q, i, h => by
    have hl := seg_len L (n + 1) q
    have hl' := seg_len L n (q - 1)
    simp only [seg]
    by_cases hi : i < n
    · rw [List.getElem_append_left (by omega), seg_at L n (q - 1) i (by omega)]
      rw [show q - 1 - (n : Int) + 1 + (i : Int) = q - ((n + 1 : Nat) : Int) + 1 + (i : Int) by omega]
    · obtain rfl : i = n := by omega
      rw [List.getElem_append_right (by omega)]
      simp only [hl', Nat.sub_self, List.getElem_cons_zero]
      rw [show q - ((i + 1 : Nat) : Int) + 1 + (i : Int) = q by omega]
theorem cnt_le (L : List ByteArray) : ∀ (k : Nat) (q : Int), cnt L k q ≤ k
  | 0, _ => Nat.le_refl _
  | k + 1, q => by
    rw [cnt]
    cases recAtB L q with
    | false => exact Nat.zero_le _
    | true => exact Nat.succ_le_succ (cnt_le L k (q - 1))
theorem cnt_min (L : List ByteArray) : ∀ (k : Nat) (q : Int), cnt L k q = min (cnt L (k + 1) q) k
  | 0, _ => by rw [Nat.min_zero]; rfl
  | k + 1, q => by
    rw [cnt, cnt]
    cases recAtB L q with
    | false => simp
    | true =>
      show cnt L k (q - 1) + 1 = min (cnt L (k + 1) (q - 1) + 1) (k + 1)
      rw [cnt_min L k (q - 1)]; omega
theorem cnt_eq {L M : List ByteArray} : ∀ (k : Nat) (q : Int), (∀ j : Nat, j < k → recAtB M (q - j) = recAtB L (q - j)) → cnt M k q = cnt L k q
  | 0, _, _ => rfl
  | k + 1, q, h => by
    have h0 := h 0 (by omega)
    simp only [Int.natCast_zero, Int.sub_zero] at h0
    rw [cnt, cnt, h0, cnt_eq (L := L) (M := M) k (q - 1) (fun j hj => by have := h (j + 1) (by omega); rw [show q - ((j + 1 : Nat) : Int) = q - 1 - (j : Int) by omega] at this; exact this)]
theorem topN_ge (L : List ByteArray) : ∀ (i j : Nat), j < i → (recP (L.getD j ⟨#[]⟩)).2.2 = true → (recP (L.getD j ⟨#[]⟩)).1 % 6 = j → (recP (L.getD j ⟨#[]⟩)).1 ≤ topN L i
  | 0, _, h, _, _ => by omega
  | i + 1, j, h, h1, h2 => by
    rw [topN]
    by_cases e : j = i
    · subst e
      rw [h1, decide_eq_true h2]
      show _ ≤ max _ _
      omega
    · have := topN_ge L i j (by omega) h1 h2
      cases ((recP (L.getD i ⟨#[]⟩)).2.2 && decide ((recP (L.getD i ⟨#[]⟩)).1 % 6 = i)) with
      | false => exact this
      | true => show _ ≤ max _ _; omega
theorem topN_le (L : List ByteArray) (m : Int) (h0 : 0 ≤ m) : ∀ (i : Nat), (∀ j : Nat, j < i → (recP (L.getD j ⟨#[]⟩)).2.2 = true → (recP (L.getD j ⟨#[]⟩)).1 % 6 = j → (recP (L.getD j ⟨#[]⟩)).1 ≤ m) → topN L i ≤ m
  | 0, _ => h0
  | i + 1, h => by
    rw [topN]
    have hi := topN_le L m h0 i (fun j hj => h j (by omega))
    cases hb : ((recP (L.getD i ⟨#[]⟩)).2.2 && decide ((recP (L.getD i ⟨#[]⟩)).1 % 6 = i)) with
    | false => exact hi
    | true =>
      rw [Bool.and_eq_true, decide_eq_true_eq] at hb
      have := h i (by omega) hb.1 hb.2
      show max _ _ ≤ m
      omega

theorem ringL_no {L : List ByteArray} (h : L.length ≠ 6) : ringL L = [] := by unfold ringL; exact if_neg h
theorem ringL_seg {L : List ByteArray} (h : L.length = 6) : ringL L = seg L (cnt L 6 (topN L 6)) (topN L 6) := by unfold ringL; rw [if_pos h, downF_seg, List.append_nil]
/-- Each is the next of the one ahead of it. -/
theorem ringL_next (L : List ByteArray) (i : Nat) (h : i + 1 < (ringL L).length) : (ringL L)[i + 1].1 = (ringL L)[i].1 + 1 := by
  by_cases h6 : L.length = 6
  · have e := ringL_seg h6
    simp only [e] at h ⊢
    rw [seg_at, seg_at]
    simp only
    omega
  · rw [ringL_no h6] at h; simp at h
theorem ringL_last (L : List ByteArray) (h : 0 < (ringL L).length) : (ringL L)[(ringL L).length - 1].1 = topN L 6 ∧ L.length = 6 := by
  by_cases h6 : L.length = 6
  · refine ⟨?_, h6⟩
    have e := ringL_seg h6
    simp only [e] at h ⊢
    rw [seg_at]
    rw [seg_len] at h
    simp only [seg_len]
    omega
  · rw [ringL_no h6] at h; simp at h
theorem topN_ring {L : List ByteArray} (h6 : L.length = 6) (h : ∀ x ∈ L, ringT x) : topN L 6 ≤ 999999 := by
  refine topN_le L _ (by omega) 6 (fun j hj h1 _ => ?_)
  have hm : L.getD j ⟨#[]⟩ ∈ L := by
    rw [List.getD_eq_getElem?_getD, List.getElem?_eq_getElem (by omega), Option.getD_some]
    exact List.getElem_mem _
  have := (h _ hm).2 h1
  omega
theorem ringL_bd {L : List ByteArray} (hg : ∀ x ∈ L, ringT x) (i : Nat) (h : i < (ringL L).length) : -10 ≤ (ringL L)[i].1 ∧ (ringL L)[i].1 ≤ 999999 := by
  by_cases h6 : L.length = 6
  · have e := ringL_seg h6
    have hT := topN_ring h6 hg
    have hT0 := (topN_bd L 6).1
    have hc := cnt_le L 6 (topN L 6)
    simp only [e] at h ⊢
    rw [seg_at]
    rw [seg_len] at h
    simp only
    omega
  · rw [ringL_no h6] at h; simp at h
/-- One more is read as the newest. -/
theorem ring_more {L : List ByteArray} {t : ByteArray} (h6 : L.length = 6) (ht : t.size ≤ 80) (hg : ∀ x ∈ L, ringT x) :
    putB L (topN L 6 + 1) t = true ∧ (ringL (putL L (topN L 6 + 1) t)).length = min ((ringL L).length + 1) 6 ∧
    ∀ (k : Nat) (hk : k < (ringL (putL L (topN L 6 + 1) t)).length), k + 1 = (ringL (putL L (topN L 6 + 1) t)).length → (ringL (putL L (topN L 6 + 1) t))[k] = (topN L 6 + 1, t) := by
  have hT := topN_ring h6 hg
  have hT0 := (topN_bd L 6).1
  obtain ⟨T, hTT⟩ : ∃ T, topN L 6 = T := ⟨_, rfl⟩
  rw [hTT] at hT hT0 ⊢
  have hok : okR (T + 1) t = true := by
    unfold okR
    rw [Bool.and_eq_true]
    exact ⟨inI_true.2 ⟨by omega, by omega⟩, by simp; omega⟩
  have hp : putL L (T + 1) t = L.set ((T + 1) % 6).toNat (showRecB (T + 1) t) := by unfold putL; rw [if_pos h6, if_pos hok]
  have hb : putB L (T + 1) t = true := by unfold putB; rw [hok, decide_eq_true h6]; rfl
  have hl : (L.set ((T + 1) % 6).toNat (showRecB (T + 1) t)).length = 6 := by rw [List.length_set]; exact h6
  have hin : ∀ (i : Nat), i = ((T + 1) % 6).toNat → (L.set ((T + 1) % 6).toNat (showRecB (T + 1) t)).getD i ⟨#[]⟩ = showRecB (T + 1) t := by
    rintro i rfl
    rw [List.getD_eq_getElem?_getD, List.getElem?_set_self (by omega), Option.getD_some]
  have hout : ∀ (i : Nat), i ≠ ((T + 1) % 6).toNat → (L.set ((T + 1) % 6).toNat (showRecB (T + 1) t)).getD i ⟨#[]⟩ = L.getD i ⟨#[]⟩ := by
    intro i hi
    rw [List.getD_eq_getElem?_getD, List.getElem?_set_ne (fun e => hi e.symm), ← List.getD_eq_getElem?_getD]
  have htop : topN (L.set ((T + 1) % 6).toNat (showRecB (T + 1) t)) 6 = T + 1 := by
    have h1 : topN (L.set ((T + 1) % 6).toNat (showRecB (T + 1) t)) 6 ≤ T + 1 := by
      refine topN_le _ _ (by omega) 6 (fun j hj a b => ?_)
      by_cases e : j = ((T + 1) % 6).toNat
      · rw [hin j e, recP_show hok]; exact Int.le_refl _
      · rw [hout j e] at a b ⊢
        have := topN_ge L 6 j hj a b
        omega
    have h2 := topN_ge (L.set ((T + 1) % 6).toNat (showRecB (T + 1) t)) 6 ((T + 1) % 6).toNat (by omega) (by rw [hin _ rfl, recP_show hok]) (by rw [hin _ rfl, recP_show hok]; simp only; omega)
    rw [hin _ rfl, recP_show hok] at h2
    simp only at h2
    omega
  have hat : recAtB (L.set ((T + 1) % 6).toNat (showRecB (T + 1) t)) (T + 1) = true := by
    unfold recAtB at6
    rw [hin _ rfl, recP_show hok, decide_eq_true (show (1 : Int) ≤ T + 1 by omega)]
    simp
  have htx : txtAt (L.set ((T + 1) % 6).toNat (showRecB (T + 1) t)) (T + 1) = t := by
    unfold txtAt at6
    rw [hin _ rfl, recP_show hok]
  have hc : cnt (L.set ((T + 1) % 6).toNat (showRecB (T + 1) t)) 6 (T + 1) = min (cnt L 6 T) 5 + 1 := by
    rw [cnt, hat]
    show cnt _ 5 (T + 1 - 1) + 1 = _
    rw [show T + 1 - 1 = T by omega, ← cnt_min L 5 T, cnt_eq (L := L) 5 T (fun j hj => by unfold recAtB at6; rw [hout _ (by omega)])]
  have hr : ringL (L.set ((T + 1) % 6).toNat (showRecB (T + 1) t)) = seg (L.set ((T + 1) % 6).toNat (showRecB (T + 1) t)) (min (cnt L 6 T) 5 + 1) (T + 1) := by rw [ringL_seg hl, htop, hc]
  rw [hp, hr]
  refine ⟨hb, ?_, fun k hk hkl => ?_⟩
  · rw [seg_len, ringL_seg h6, hTT, seg_len]; omega
  · rw [seg_len] at hkl
    rw [seg_at]
    rw [show T + 1 - ((min (cnt L 6 T) 5 + 1 : Nat) : Int) + 1 + (k : Int) = T + 1 by omega, htx]

end Go.Proofs.Ytgbgfgkgkbnflaa
