/- What a book holds of the past: wherever power falls, it is read again. Plain Lean. -/
import Derived.Test.YtghgafbfpejinaaGreatDoorRBkP
import Derived.Test.YtghgafbfpejinaaGreatDoorRRecQ
import Derived.Test.YtghgafbfpejinaaGreatDoorRNewBk
namespace Go.Proofs.YtghgafbfpejinaaGreatDoor
open Go Go.RowKit

/-- The text of a change's record. -/
noncomputable def recT (j : Nat) (o : Int × ByteArray × Int) : ByteArray := showRecB (j : Int) (showOpB o.1 o.2.1 o.2.2)
theorem recT_read {j : Nat} {o : Int × ByteArray × Int} (h1 : 1 ≤ j) (h2 : j ≤ 1000000) (ho : opOkB o.1 o.2.1 o.2.2 = true) : recP (recT j o) = ((j : Int), showOpB o.1 o.2.1 o.2.2, true) := by
 refine recP_show ?_
 unfold okR
 rw [Bool.and_eq_true]
 refine ⟨inI_t.2 ⟨by omega, by omega⟩, ?_⟩
 rw [decide_eq_true_eq]
 have h3 := opOk_size ho
 have h4 := varB_size o.1
 have h5 := varB_size o.2.2
 unfold showOpB
 rw [if_pos ho, ByteArray.size_append, ByteArray.size_append]
 omega
theorem recAt_of {L : List ByteArray} {j : Nat} {o : Int × ByteArray × Int} (h1 : 1 ≤ j) (h2 : j ≤ 1000000) (ho : opOkB o.1 o.2.1 o.2.2 = true) (h : at6 L (j : Int) = recT j o) : recAtB L (j : Int) = true ∧ txtAt L (j : Int) = showOpB o.1 o.2.1 o.2.2 := by
 unfold recAtB txtAt
 rw [h, recT_read h1 h2 ho]
 simp only [decide_true, Bool.and_true, decide_eq_true_eq, and_true]
 omega
theorem recAt_other {L : List ByteArray} {j : Nat} {o : Int × ByteArray × Int} {q : Int} (h1 : 1 ≤ j) (h2 : j ≤ 1000000) (ho : opOkB o.1 o.2.1 o.2.2 = true) (h : at6 L q = recT j o) (hq : q ≠ j) : recAtB L q = false := by
 unfold recAtB
 rw [h, recT_read h1 h2 ho]
 simp only [Bool.true_and, Bool.and_eq_false_iff, decide_eq_false_iff_not]
 right; omega
theorem recAt_empty {L : List ByteArray} {q : Int} (h : at6 L q = ⟨#[]⟩) : recAtB L q = false := by
 unfold recAtB; rw [h, recP_nil]; simp
theorem at6_set {L : List ByteArray} (hL : L.length = 6) {x q : Int} (s : ByteArray) (hx : 0 ≤ x % 6 ∧ x % 6 < 6) : at6 (L.set (x % 6).toNat s) q = if q % 6 = x % 6 then s else at6 L q := by
 unfold at6
 have hq : 0 ≤ q % 6 ∧ q % 6 < 6 := by omega
 split
 ·rename_i h
  rw [h]
  simp only [List.getD, List.getElem?_set_self (show (x % 6).toNat < L.length by omega), Option.getD_some]
 ·rename_i h
  simp only [List.getD, List.getElem?_set_ne (show (x % 6).toNat ≠ (q % 6).toNat by omega)]
theorem m6 (x : Int) : 0 ≤ x % 6 ∧ x % 6 < 6 := by omega

/-- The drafted home's write, where there is one. -/
noncomputable def draftW (df at_ : Int) (d : List EntD) : List (Int × ByteArray) := if df = 0 then [] else [(7 - at_, showHomeB df d)]
/-- The records' writes. -/
noncomputable def recW (ops : Nat → Int × ByteArray × Int) (sf n : Nat) : List (Int × ByteArray) := (List.range n).map fun i => (((sf + i + 1 : Nat) : Int) % 6, recT (sf + i + 1) (ops (sf + i)))
theorem recW_len (ops : Nat → Int × ByteArray × Int) (sf n : Nat) : (recW ops sf n).length = n := by simp [recW]
theorem recW_succ (ops : Nat → Int × ByteArray × Int) (sf n : Nat) : recW ops sf (n + 1) = recW ops sf n ++ [(((sf + n + 1 : Nat) : Int) % 6, recT (sf + n + 1) (ops (sf + n)))] := by simp [recW, List.range_succ]

/-- What a book holds: the directories behind each of its changes, the newest home, the records since then; what isn't flushed yet waits. -/
structure JB (B : BookD) (was : List (List EntD)) (ops : Nat → Int × ByteArray × Int) (bs sf sq : Nat) : Prop where
 ok : bookOkB B = true
 ebs : B.bs = bs
 esf : B.sf = sf
 esq : B.sq = sq
 len : was.length = sq + 1
 dirs : ∀ d ∈ was, dirOkB d = true
 cur : was.getD sq [] = B.dr
 chg : ∀ j, bs ≤ j → j < sq → opOkB (ops j).1 (ops j).2.1 (ops j).2.2 = true ∧ doP (was.getD j []) (ops j).1 (ops j).2.1 (ops j).2.2 = (was.getD (j + 1) [], true)
 rg : ∀ j, bs ≤ j → j < sf → at6 B.rg ((j + 1 : Nat) : Int) = recT (j + 1) (ops j)
 st : ∀ q : Int, (sf : Int) < q → recAtB B.rg q = false
 pd : B.pd = draftW B.df B.at_ (was.getD B.df.toNat []) ++ recW ops sf (sq - sf)
 hm : B.hm.getD B.at_.toNat ⟨#[]⟩ = showHomeB bs (was.getD bs [])
 ho : (homeP (B.hm.getD (1 - B.at_).toNat ⟨#[]⟩)).2 = true → (homeP (B.hm.getD (1 - B.at_).toNat ⟨#[]⟩)).1.1 < bs
 df : B.df = 0 ∨ B.df = sf
section
variable {B : BookD} {was : List (List EntD)} {ops : Nat → Int × ByteArray × Int} {bs sf sq : Nat}
theorem JB.bd (h : JB B was ops bs sf sq) : bs ≤ sf ∧ sf ≤ sq ∧ sq ≤ bs + 6 ∧ sq ≤ 1000000 ∧ B.rg.length = 6 ∧ B.hm.length = 2 ∧ (B.at_ = 0 ∨ B.at_ = 1) ∧ (B.df ≠ 0 → bs < sf) := by
 obtain ⟨p, r, hh, q, d, hb, f, m, ss, a, c⟩ := bk_is h.ok
 have h1 := h.ebs
 have h2 := h.esf
 have h3 := h.esq
 have h4 := h.df
 rw [inI_t] at hb a
 exact ⟨by omega, by omega, by omega, by omega, r, hh, by omega, fun h5 => by rcases c with c | c <;> omega⟩
theorem getD_mem {α : Type} {l : List α} {k : Nat} (h : k < l.length) (d : α) : l.getD k d ∈ l := by
 simp only [List.getD, List.getElem?_eq_getElem h, Option.getD_some]
 exact List.getElem_mem h
theorem JB.dir (h : JB B was ops bs sf sq) {k : Nat} (hk : k ≤ sq) : dirOkB (was.getD k []) = true := h.dirs _ (getD_mem (by rw [h.len]; omega) _)

/-- What stands in the ring and in the homes when some of the writes were done: 'sel i' says which. -/
structure WrX (B : BookD) (was : List (List EntD)) (ops : Nat → Int × ByteArray × Int) (bs sf n : Nat) (dr : Bool) (sel : Nat → Bool) (R : List ByteArray × List ByteArray) : Prop where
 l1 : R.1.length = 6
 l2 : R.2.length = 2
 rg : ∀ j, bs ≤ j → j < sf → at6 R.1 ((j + 1 : Nat) : Int) = recT (j + 1) (ops j)
 yes : ∀ i, i < n → sel i = true → at6 R.1 ((sf + i + 1 : Nat) : Int) = recT (sf + i + 1) (ops (sf + i))
 no : ∀ q : Int, (sf : Int) < q → (∀ i, i < n → sel i = true → q ≠ ((sf + i + 1 : Nat) : Int)) → recAtB R.1 q = false
 hm : R.2.getD B.at_.toNat ⟨#[]⟩ = showHomeB bs (was.getD bs [])
 ho : if dr = true then R.2.getD (1 - B.at_).toNat ⟨#[]⟩ = showHomeB sf (was.getD sf []) ∧ bs < sf else (homeP (R.2.getD (1 - B.at_).toNat ⟨#[]⟩)).2 = true → (homeP (R.2.getD (1 - B.at_).toNat ⟨#[]⟩)).1.1 < bs
theorem WrX.start (h : JB B was ops bs sf sq) (sel : Nat → Bool) : WrX B was ops bs sf 0 false sel (B.rg, B.hm) := by
 obtain ⟨_, _, _, _, r, hh, _⟩ := h.bd
 exact ⟨r, hh, h.rg, fun i hi => absurd hi (by omega), fun q hq _ => h.st q hq, h.hm, by simp only [Bool.false_eq_true, if_false]; exact h.ho⟩
theorem WrX.draft (h : JB B was ops bs sf sq) (hdf : B.df ≠ 0) {sel : Nat → Bool} {R : List ByteArray × List ByteArray} (hR : WrX B was ops bs sf 0 false sel R) :
  WrX B was ops bs sf 0 true sel (wrB R (7 - B.at_, showHomeB B.df (was.getD B.df.toNat []))) := by
 obtain ⟨_, _, _, _, r, hh, ha, hlt⟩ := h.bd
 have hd : B.df = sf := by rcases h.df with h1 | h1; exact absurd h1 hdf; exact h1
 obtain ⟨R1, R2⟩ := R
 have h2 := hR.l2
 have hhm := hR.hm
 simp only at h2 hhm
 have e6 : ¬ ((7 - B.at_) < 6) := by omega
 have ew : wrB (R1, R2) (7 - B.at_, showHomeB B.df (was.getD B.df.toNat [])) = (R1, R2.set (7 - B.at_ - 6).toNat (showHomeB B.df (was.getD B.df.toNat []))) := by unfold wrB; rw [if_neg e6]
 rw [ew]
 refine ⟨hR.l1, by simp only [List.length_set]; exact h2, hR.rg, hR.yes, hR.no, ?_, ?_⟩
 ·simp only [List.getD, List.getElem?_set]
  rw [if_neg (by omega)]
  exact hhm
 ·rw [if_pos rfl]
  refine ⟨?_, hlt hdf⟩
  simp only [List.getD, List.getElem?_set]
  rw [if_pos (by omega), if_pos (by omega), hd]
  rfl
theorem WrX.skip {n : Nat} {dr : Bool} {sel : Nat → Bool} {R : List ByteArray × List ByteArray} (h : WrX B was ops bs sf n dr sel R) (hs : sel n = false) : WrX B was ops bs sf (n + 1) dr sel R := by
 refine ⟨h.l1, h.l2, h.rg, fun i hi hsi => ?_, fun q hq hno => h.no q hq fun i hi hsi => hno i (by omega) hsi, h.hm, h.ho⟩
 rcases Nat.lt_or_ge i n with h1 | h1
 ·exact h.yes i h1 hsi
 ·obtain rfl : i = n := by omega
  rw [hs] at hsi; cases hsi
theorem WrX.put (hJ : JB B was ops bs sf sq) {n : Nat} {dr : Bool} {sel : Nat → Bool} {R : List ByteArray × List ByteArray} (h : WrX B was ops bs sf n dr sel R) (hn : sf + n < sq) :
  WrX B was ops bs sf (n + 1) dr sel (wrB R (((sf + n + 1 : Nat) : Int) % 6, recT (sf + n + 1) (ops (sf + n)))) ∨ sel n = false := by
 rcases hs : sel n with _ | _
 ·exact .inr rfl
 left
 obtain ⟨b1, b2, b3, b4, _⟩ := hJ.bd
 obtain ⟨R1, R2⟩ := R
 have l1 := h.l1
 simp only at l1
 have hm := m6 ((sf + n + 1 : Nat) : Int)
 have ho := (hJ.chg (sf + n) (by omega) hn).1
 have ew : wrB (R1, R2) (((sf + n + 1 : Nat) : Int) % 6, recT (sf + n + 1) (ops (sf + n))) = (R1.set (((sf + n + 1 : Nat) : Int) % 6).toNat (recT (sf + n + 1) (ops (sf + n))), R2) := by unfold wrB; rw [if_pos (by exact hm.2)]
 rw [ew]
 refine ⟨by simp only [List.length_set]; exact l1, h.l2, fun j h1 h2 => ?_, fun i hi hsi => ?_, fun q hq hno => ?_, h.hm, h.ho⟩
 ·simp only
  rw [at6_set l1 _ hm, if_neg (by omega)]
  exact h.rg j h1 h2
 ·simp only
  rw [at6_set l1 _ hm]
  split
  ·obtain rfl : i = n := by omega
   rfl
  ·rename_i hne
   rcases Nat.lt_or_ge i n with h1 | h1
   ·exact h.yes i h1 hsi
   ·obtain rfl : i = n := by omega
    exact absurd rfl hne
 ·simp only
  by_cases hq6 : q % 6 = ((sf + n + 1 : Nat) : Int) % 6
  ·refine recAt_other (j := sf + n + 1) (by omega) (by omega) ho ?_ (hno n (by omega) hs)
   rw [at6_set l1 _ hm, if_pos hq6]
  ·have h1 := h.no q hq fun i hi hsi => hno i (by omega) hsi
   unfold recAtB at h1 ⊢
   simp only at h1
   rw [at6_set l1 _ hm, if_neg hq6]
   exact h1
end

end Go.Proofs.YtghgafbfpejinaaGreatDoor
