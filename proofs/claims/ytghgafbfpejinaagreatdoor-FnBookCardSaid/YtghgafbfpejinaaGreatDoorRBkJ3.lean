/- What a book holds of the past is read again behind a fall. Plain Lean. -/
import Derived.Test.YtghgafbfpejinaaGreatDoorRBkJ2
namespace Go.Proofs.YtghgafbfpejinaaGreatDoor
open Go Go.RowKit

section
variable {B : BookD} {was : List (List EntD)} {ops : Nat → Int × ByteArray × Int} {bs sf sq : Nat}
theorem fall_walk (hJ : JB B was ops bs sf sq) {n0 : Nat} {dr : Bool} {sel : Nat → Bool} {R : List ByteArray × List ByteArray} (hX : WrX B was ops bs sf n0 dr sel R) (hn0 : n0 = sq - sf) {nb : Nat} (hnb : bs ≤ nb) :
  ∀ (n j : Nat) (rg : List ByteArray), nb ≤ j → j ≤ sq → sq ≤ j + n → rg.length = 6 → (∀ i, nb ≤ i → i < j → at6 rg ((i + 1 : Nat) : Int) = recT (i + 1) (ops i)) → (∀ x : Int, (j : Int) < x → recAtB rg x = false) →
  ∃ (q : Nat) (rg' : List ByteArray), j ≤ q ∧ sf ≤ q ∧ q ≤ sq ∧ fallN R.1 n (was.getD j []) j rg = (was.getD q [], (q : Int), rg') ∧ rg'.length = 6 ∧ (∀ i, nb ≤ i → i < q → at6 rg' ((i + 1 : Nat) : Int) = recT (i + 1) (ops i)) ∧ (∀ x : Int, (q : Int) < x → recAtB rg' x = false)
 | n, j, rg, hj0, hj, hn, hl, hr, hs => by
  obtain ⟨b1, b2, b3, b4, _⟩ := hJ.bd
  have hno : j = sq → fallS R.1 (was.getD j []) (j : Int) = none := fun e => by
   refine fall_norec ?_
   exact hX.no _ (by omega) fun i hi _ => by omega
  by_cases hjq : j = sq
  ·refine ⟨j, rg, Nat.le_refl _, by omega, hj, ?_, hl, hr, hs⟩
   rw [fallN_stop (hno hjq)]
  ·obtain ⟨n', rfl⟩ : ∃ n', n = n' + 1 := ⟨n - 1, by omega⟩
   obtain ⟨ho, hd⟩ := hJ.chg j (by omega) (by omega)
   by_cases hc : j < sf ∨ sel (j - sf) = true
   ·have hat : at6 R.1 ((j + 1 : Nat) : Int) = recT (j + 1) (ops j) := by
     rcases Nat.lt_or_ge j sf with h1 | h1
     ·exact hX.rg j (by omega) h1
     ·have hs1 : sel (j - sf) = true := by rcases hc with h | h; omega; exact h
      have := hX.yes (j - sf) (by omega) hs1
      rwa [show sf + (j - sf) = j by omega] at this
    obtain ⟨h1, h2⟩ := recAt_of (by omega) (by omega) ho hat
    have e1 : ((j + 1 : Nat) : Int) = (j : Int) + 1 := by omega
    rw [e1] at h1 h2 hat
    have hS : fallS R.1 (was.getD j []) (j : Int) = some (was.getD (j + 1) []) := fall_yes h1 (by rw [h2]; exact opP_show ho) hd
    have hm := m6 ((j : Int) + 1)
    obtain ⟨q, rg', h3, h4, h5, h6, h7, h8, h9⟩ := fall_walk hJ hX hn0 hnb n' (j + 1) (rg.set (((j : Int) + 1) % 6).toNat (at6 R.1 ((j : Int) + 1))) (by omega) (by omega) (by omega) (by rw [List.length_set]; exact hl)
     (fun i hi1 hi2 => by
      rw [at6_set hl _ hm]
      by_cases hij : i = j
      ·subst hij
       rw [if_pos (by omega), hat]
      ·rw [if_neg (by omega)]
       exact hr i hi1 (by omega))
     (fun x hx => by
      by_cases hx6 : x % 6 = ((j : Int) + 1) % 6
      ·refine recAt_other (j := j + 1) (by omega) (by omega) ho ?_ (by omega)
       rw [at6_set hl _ hm, if_pos hx6, hat]
      ·have h10 := hs x (by omega)
       unfold recAtB at h10 ⊢
       rw [at6_set hl _ hm, if_neg hx6]
       exact h10)
    refine ⟨q, rg', by omega, h4, h5, ?_, h7, h8, h9⟩
    rw [fallN_go hS, ← e1]
    rw [← e1] at h6
    exact h6
   ·refine ⟨j, rg, Nat.le_refl _, by rcases Nat.lt_or_ge j sf with h | h; exact absurd (.inl h) hc; exact h, hj, ?_, hl, hr, hs⟩
    rw [fallN_stop]
    refine fall_norec ?_
    refine hX.no _ ?_ fun i hi hsi => ?_
    ·rcases Nat.lt_or_ge j sf with h | h
     ·exact absurd (.inl h) hc
     ·omega
    ·intro e
     have : i = j - sf := by omega
     exact hc (.inr (by rw [← this]; exact hsi))
theorem hmS_go {st : HmD} {i : Int} {s : ByteArray} {n : Int} {d : List EntD} (h : homeP s = ((n, d), true)) (h2 : st.at_ < 0 ∨ st.bs < n) : hmS st i s = ⟨i, n, d⟩ := by
 rw [hmS_yes ⟨by rw [h], by rw [h]; exact h2⟩, h]
theorem hm2 (L : List ByteArray) : hmN L 2 = hmS (hmS ⟨-1, 0, []⟩ 0 (L.getD 0 ⟨#[]⟩)) 1 (L.getD 1 ⟨#[]⟩) := rfl
/-- The newest home. -/
theorem JB.newest (hJ : JB B was ops bs sf sq) {n0 : Nat} {dr : Bool} {sel : Nat → Bool} {R : List ByteArray × List ByteArray} (hX : WrX B was ops bs sf n0 dr sel R) :
  hmN R.2 2 = ⟨if dr then 1 - B.at_ else B.at_, ((if dr then sf else bs : Nat) : Int), was.getD (if dr then sf else bs) []⟩ := by
 obtain ⟨b1, b2, b3, b4, _, _, ha, _⟩ := hJ.bd
 have hh := hX.hm
 have ho := hX.ho
 have r1 := home_read (q := bs) (by omega) (hJ.dir (k := bs) (by omega))
 have r2 := home_read (q := sf) (by omega) (hJ.dir (k := sf) (by omega))
 rw [hm2]
 rcases dr with _ | _
 ·simp only [Bool.false_eq_true, if_false] at ho ⊢
  rcases ha with ha | ha
  ·rw [ha] at hh ho ⊢
   have hh : R.2.getD 0 ⟨#[]⟩ = _ := hh
   have ho : (homeP (R.2.getD 1 ⟨#[]⟩)).2 = true → (homeP (R.2.getD 1 ⟨#[]⟩)).1.1 < bs := ho
   rw [hh, hmS_go r1 (.inl (by show (-1 : Int) < 0; omega)), hmS_no]
   rintro ⟨h1, h2⟩
   have := ho h1
   rcases h2 with h2 | h2
   ·have h2 : (0 : Int) < 0 := h2; omega
   ·have h2 : (bs : Int) < _ := h2; omega
  ·rw [ha] at hh ho ⊢
   have hh : R.2.getD 1 ⟨#[]⟩ = _ := hh
   have ho : (homeP (R.2.getD 0 ⟨#[]⟩)).2 = true → (homeP (R.2.getD 0 ⟨#[]⟩)).1.1 < bs := ho
   rw [hh]
   refine hmS_go r1 ?_
   by_cases h1 : (homeP (R.2.getD 0 ⟨#[]⟩)).2 = true
   ·rw [hmS_yes ⟨h1, .inl (by show (-1 : Int) < 0; omega)⟩]
    exact .inr (ho h1)
   ·rw [hmS_no (fun h => h1 h.1)]
    exact .inl (by show (-1 : Int) < 0; omega)
 ·rw [if_pos rfl] at ho
  simp only [if_true]
  obtain ⟨ho, hlt⟩ := ho
  rcases ha with ha | ha
  ·rw [ha] at hh ho ⊢
   have hh : R.2.getD 0 ⟨#[]⟩ = _ := hh
   have ho : R.2.getD 1 ⟨#[]⟩ = _ := ho
   rw [hh, ho, hmS_go r1 (.inl (by show (-1 : Int) < 0; omega)), hmS_go r2 (.inr (by show (bs : Int) < sf; omega))]
   rfl
  ·rw [ha] at hh ho ⊢
   have hh : R.2.getD 1 ⟨#[]⟩ = _ := hh
   have ho : R.2.getD 0 ⟨#[]⟩ = _ := ho
   rw [ho, hmS_go r2 (.inl (by show (-1 : Int) < 0; omega)), hh, hmS_no]
   ·rfl
   ·rintro ⟨_, h2⟩
    rw [r1] at h2
    rcases h2 with h2 | h2
    ·have h2 : (0 : Int) < 0 := h2; omega
    ·have h2 : (sf : Int) < bs := h2; omega
/-- Fallen. -/
theorem JB.fall (hJ : JB B was ops bs sf sq) {m : Int} {B' : BookD} {b : Bool} (h : fallP B m = (B', b)) :
  b = true ∧ ∃ q nb : Nat, sf ≤ q ∧ q ≤ sq ∧ B'.sq = q ∧ B'.dr = was.getD q [] ∧ JB B' (was.take (q + 1)) ops nb q q := by
 obtain ⟨b1, b2, b3, b4, _, _, ha, _⟩ := hJ.bd
 obtain ⟨k0, dr, hc1, hc2, hX⟩ := wrm_char hJ m
 obtain ⟨⟨rg, hm⟩, hw⟩ : ∃ p, wrmB m B.rg B.hm B.pd B.pd.length = p := ⟨_, rfl⟩
 rw [hw] at hX
 have hnew := hJ.newest hX
 have hok := fall_ok hJ.ok h
 obtain ⟨nb, hnbe⟩ : ∃ nb, (if dr then sf else bs : Nat) = nb := ⟨_, rfl⟩
 rw [hnbe] at hnew
 have hnb : bs ≤ nb ∧ nb ≤ sf := by rw [← hnbe]; split <;> omega
 have hat : ¬ (hmN hm 2).at_ < 0 := by
  have e : (hmN hm 2).at_ = if dr then 1 - B.at_ else B.at_ := by show (hmN (rg, hm).2 2).at_ = _; rw [hnew]
  rw [e]; split <;> omega
 have hnew' : hmN hm 2 = ⟨if dr then 1 - B.at_ else B.at_, (nb : Int), was.getD nb []⟩ := hnew
 have hrep : ∀ x : Int, at6 (List.replicate 6 (⟨#[]⟩ : ByteArray)) x = ⟨#[]⟩ := fun x => by
  unfold at6
  have := m6 x
  simp only [List.getD, List.getElem?_replicate]
  split <;> rfl
 obtain ⟨q, rg', h1, h2, h3, h4, h5, h6, h7⟩ := fall_walk hJ hX rfl hnb.1 6 nb (List.replicate 6 ⟨#[]⟩) (Nat.le_refl _) (by omega) (by omega) (by simp) (fun i a b => absurd b (by omega)) (fun x _ => recAt_empty (hrep x))
 rw [fall_some hJ.ok hw hat (R := (was.getD q [], (q : Int), rg')) (by rw [hnew']; exact h4)] at h
 injection h with he hb
 refine ⟨hb.symm, q, nb, h2, h3, by rw [← he], by rw [← he], ?_⟩
 have hg : ∀ j, j ≤ q → (was.take (q + 1)).getD j [] = was.getD j [] := fun j hj => by
  simp only [List.getD]; rw [List.getElem?_take_of_lt (by omega)]
 have eat : B'.at_ = if dr then 1 - B.at_ else B.at_ := by rw [← he]; show (hmN hm 2).at_ = _; rw [hnew']
 have ehm : B'.hm = hm := by rw [← he]
 refine ⟨hok.1, by rw [← he]; show (hmN hm 2).bs = _; rw [hnew'], by rw [← he], by rw [← he], by rw [List.length_take, hJ.len]; omega, fun d hd => hJ.dirs d (List.mem_of_mem_take hd), by rw [hg q (Nat.le_refl _), ← he], fun j h8 h9 => ?_, by rw [← he]; exact h6, by rw [← he]; exact h7, ?_, ?_, ?_, .inl (by rw [← he])⟩
 ·rw [hg j (by omega), hg (j + 1) (by omega)]
  exact hJ.chg j (by omega) (by omega)
 ·rw [← he]
  show ([] : List (Int × ByteArray)) = draftW 0 _ _ ++ recW ops q (q - q)
  unfold draftW recW
  simp
 ·rw [hg nb h1, eat, ehm]
  rcases dr with _ | _
  ·simp only [Bool.false_eq_true, if_false] at hnbe ⊢
   subst hnbe
   exact hX.hm
  ·simp only [if_true] at hnbe ⊢
   subst hnbe
   have := hX.ho
   rw [if_pos rfl] at this
   exact this.1
 ·rw [eat, ehm]
  rcases dr with _ | _
  ·simp only [Bool.false_eq_true, if_false] at hnbe ⊢
   subst hnbe
   have := hX.ho
   simp only [Bool.false_eq_true, if_false] at this
   exact this
  ·simp only [if_true] at hnbe ⊢
   subst hnbe
   rw [show (1 : Int) - (1 - B.at_) = B.at_ by omega]
   intro _
   have e : hm.getD B.at_.toNat ⟨#[]⟩ = showHomeB bs (was.getD bs []) := hX.hm
   rw [e, home_read (by omega) (hJ.dir (by omega))]
   have := hX.ho
   rw [if_pos rfl] at this
   show (bs : Int) < (sf : Int)
   omega
/-- A new book. -/
theorem JB.new : JB newB [[]] (fun _ => (0, ⟨#[]⟩, 0)) 0 0 0 := by
 have hd : dirOkB [] = true := dirOk_nil
 have hs : ∀ x : Int, at6 newB.rg x = ⟨#[]⟩ := fun x => by
  have := m6 x
  unfold at6
  obtain ⟨k, hk⟩ : ∃ k : Nat, (x % 6).toNat = k := ⟨_, rfl⟩
  rw [hk]
  have : k < 6 := by omega
  rcases k with _ | _ | _ | _ | _ | _ | k
  all_goals first | rfl | omega
 refine ⟨bk_yes ⟨fun e he => absurd he (List.not_mem_nil), rfl, rfl, by show 0 ≤ 20; omega, hd, rfl, Int.le_refl _, by show (0 : Int) ≤ 1000000; omega, by show (0 : Int) ≤ 0 + 6; omega, rfl, .inl rfl⟩, rfl, rfl, rfl, rfl, fun d hd' => by rw [List.mem_singleton] at hd'; subst hd'; exact hd, rfl, fun j _ h => absurd h (by omega), fun j _ h => absurd h (by omega), fun q _ => recAt_empty (hs q), ?_, rfl, ?_, .inl rfl⟩
 ·show ([] : List (Int × ByteArray)) = draftW 0 _ _ ++ recW _ 0 (0 - 0)
  unfold draftW recW
  simp
 ·show (homeP (str [])).2 = true → _
  rw [homeP_empty]
  intro h; cases h
end

end Go.Proofs.YtghgafbfpejinaaGreatDoor
