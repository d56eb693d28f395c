/- What a book holds of the past stays through changes, drafts, flushes and falls. Plain Lean. -/
import Derived.Test.YtghgafbfpejinaaGreatDoorQDp
import Derived.Test.YtghgafbfpejinaaGreatDoorQLook
import Derived.Test.YtghgafbfpejinaaGreatDoorQBkP
import Derived.Test.YtghgafbfpejinaaGreatDoorQRecQ
namespace Go.Proofs.YtghgafbfpejinaaGreatDoor
open Go Go.RowKit

theorem sz_al (w : World) (o : Obj) : (w.alloc o).heap.size = w.heap.size + 1 := by simp
noncomputable def newB : BookD := ⟨[str [], str [], str [], str [], str [], str []], [showHomeB 0 [], str []], [], [], 0, 0, 0, 0, 0⟩

theorem own_nil0 (w : World) (base size : Nat) (e : TypeId) : w.ownsRow base e size (.slice none 0 0) 0 [] := ⟨by simp, .inl ⟨rfl, rfl⟩⟩
theorem nb_put (w7 : World) (b : Nat) (v1 v2 : Value) (hU : Blk w7 b 28 #[.slice none 0 0, .slice none 0 0, .slice none 0 0, .slice none 0 0, .int .i64 0, .int .i64 0, .int .i64 0, .int .i64 0, .int .i64 0]) :
  ∃ w9, (((((((((w7.setCell ⟨b, 0, none⟩ (v1)).setCell ⟨b, 1, none⟩ (v2)).setCell ⟨b, 2, none⟩ (.slice none 0 0)).setCell ⟨b, 3, none⟩ (.slice none 0 0)).setCell ⟨b, 4, none⟩ (.int .i64 0)).setCell ⟨b, 5, none⟩ (.int .i64 0)).setCell ⟨b, 6, none⟩ (.int .i64 0)).setCell ⟨b, 7, none⟩ (.int .i64 0)).setCell ⟨b, 8, none⟩ (.int .i64 0)) = w9 ∧ Blk w9 b 28 #[v1, v2, .slice none 0 0, .slice none 0 0, .int .i64 0, .int .i64 0, .int .i64 0, .int .i64 0, .int .i64 0] ∧ w9.heap.size = w7.heap.size ∧
   (∀ (B : Nat) (a : World), B ≤ b → Below B a w7 → Below B a w9) ∧ (∀ i, i ≠ b → w9.heap[i]? = w7.heap[i]?) :=
 ⟨_, rfl, (((((((((hU.put 0 (v1) #[v1, .slice none 0 0, .slice none 0 0, .slice none 0 0, .int .i64 0, .int .i64 0, .int .i64 0, .int .i64 0, .int .i64 0] rfl).put 1 (v2) #[v1, v2, .slice none 0 0, .slice none 0 0, .int .i64 0, .int .i64 0, .int .i64 0, .int .i64 0, .int .i64 0] rfl).put 2 (.slice none 0 0) #[v1, v2, .slice none 0 0, .slice none 0 0, .int .i64 0, .int .i64 0, .int .i64 0, .int .i64 0, .int .i64 0] rfl).put 3 (.slice none 0 0) #[v1, v2, .slice none 0 0, .slice none 0 0, .int .i64 0, .int .i64 0, .int .i64 0, .int .i64 0, .int .i64 0] rfl).put 4 (.int .i64 0) #[v1, v2, .slice none 0 0, .slice none 0 0, .int .i64 0, .int .i64 0, .int .i64 0, .int .i64 0, .int .i64 0] rfl).put 5 (.int .i64 0) #[v1, v2, .slice none 0 0, .slice none 0 0, .int .i64 0, .int .i64 0, .int .i64 0, .int .i64 0, .int .i64 0] rfl).put 6 (.int .i64 0) #[v1, v2, .slice none 0 0, .slice none 0 0, .int .i64 0, .int .i64 0, .int .i64 0, .int .i64 0, .int .i64 0] rfl).put 7 (.int .i64 0) #[v1, v2, .slice none 0 0, .slice none 0 0, .int .i64 0, .int .i64 0, .int .i64 0, .int .i64 0, .int .i64 0] rfl).put 8 (.int .i64 0) #[v1, v2, .slice none 0 0, .slice none 0 0, .int .i64 0, .int .i64 0, .int .i64 0, .int .i64 0, .int .i64 0] rfl), by simp, fun B a hb h => (((((((((h.setCell (p := ⟨b, 0, none⟩) hb _).setCell (p := ⟨b, 1, none⟩) hb _).setCell (p := ⟨b, 2, none⟩) hb _).setCell (p := ⟨b, 3, none⟩) hb _).setCell (p := ⟨b, 4, none⟩) hb _).setCell (p := ⟨b, 5, none⟩) hb _).setCell (p := ⟨b, 6, none⟩) hb _).setCell (p := ⟨b, 7, none⟩) hb _).setCell (p := ⟨b, 8, none⟩) hb _), fun i hi => (Below.heap_setCell _ ⟨b, 8, none⟩ _ i hi).trans ((Below.heap_setCell _ ⟨b, 7, none⟩ _ i hi).trans ((Below.heap_setCell _ ⟨b, 6, none⟩ _ i hi).trans ((Below.heap_setCell _ ⟨b, 5, none⟩ _ i hi).trans ((Below.heap_setCell _ ⟨b, 4, none⟩ _ i hi).trans ((Below.heap_setCell _ ⟨b, 3, none⟩ _ i hi).trans ((Below.heap_setCell _ ⟨b, 2, none⟩ _ i hi).trans ((Below.heap_setCell _ ⟨b, 1, none⟩ _ i hi).trans ((Below.heap_setCell _ ⟨b, 0, none⟩ _ i hi).trans (rfl)))))))))⟩

/-- The text of a change's record. -/
noncomputable def recT (j : Nat) (o : Int × ByteArray × Int) : ByteArray := showRecB (j : Int) (showOpB o.1 o.2.1 o.2.2)
theorem recT_read {j : Nat} {o : Int × ByteArray × Int} (h1 : 1 ≤ j) (h2 : j ≤ 1000000) (ho : opOkB o.1 o.2.1 o.2.2 = true) : recP (recT j o) = ((j : Int), showOpB o.1 o.2.1 o.2.2, true) := by
 refine recP_show ?_
 unfold okR
 rw [Bool.and_eq_true]
 refine ⟨inI_t.2 ⟨by omega, by omega⟩, ?_⟩
 rw [decide_eq_true_eq]
 have h3 := opOk_size ho
 have h4 := varB_size o.1
 have h5 := varB_size o.2.2
 unfold showOpB
 rw [if_pos ho, ByteArray.size_append, ByteArray.size_append]
 omega
theorem recAt_other {L : List ByteArray} {j : Nat} {o : Int × ByteArray × Int} {q : Int} (h1 : 1 ≤ j) (h2 : j ≤ 1000000) (ho : opOkB o.1 o.2.1 o.2.2 = true) (h : at6 L q = recT j o) (hq : q ≠ j) : recAtB L q = false := by
 unfold recAtB
 rw [h, recT_read h1 h2 ho]
 simp only [Bool.true_and, Bool.and_eq_false_iff, decide_eq_false_iff_not]
 right; omega
theorem recAt_empty {L : List ByteArray} {q : Int} (h : at6 L q = ⟨#[]⟩) : recAtB L q = false := by
 unfold recAtB; rw [h, recP_nil]; simp
theorem at6_set {L : List ByteArray} (hL : L.length = 6) {x q : Int} (s : ByteArray) (hx : 0 ≤ x % 6 ∧ x % 6 < 6) : at6 (L.set (x % 6).toNat s) q = if q % 6 = x % 6 then s else at6 L q := by
 unfold at6
 have hq : 0 ≤ q % 6 ∧ q % 6 < 6 := by omega
 split
 ·rename_i h
  rw [h]
  simp only [List.getD, List.getElem?_set_self (show (x % 6).toNat < L.length by omega), Option.getD_some]
 ·rename_i h
  simp only [List.getD, List.getElem?_set_ne (show (x % 6).toNat ≠ (q % 6).toNat by omega)]
theorem m6 (x : Int) : 0 ≤ x % 6 ∧ x % 6 < 6 := by omega

/-- The drafted home's write, where there is one. -/
noncomputable def draftW (df at_ : Int) (d : List EntD) : List (Int × ByteArray) := if df = 0 then [] else [(7 - at_, showHomeB df d)]
/-- The records' writes. -/
noncomputable def recW (ops : Nat → Int × ByteArray × Int) (sf n : Nat) : List (Int × ByteArray) := (List.range n).map fun i => (((sf + i + 1 : Nat) : Int) % 6, recT (sf + i + 1) (ops (sf + i)))
/-- What a book holds: the directories behind each of its changes, the newest home, the records since then; what isn't flushed yet waits. -/
structure JB (B : BookD) (was : List (List EntD)) (ops : Nat → Int × ByteArray × Int) (bs sf sq : Nat) : Prop where
 ok : bookOkB B = true
 ebs : B.bs = bs
 esf : B.sf = sf
 esq : B.sq = sq
 len : was.length = sq + 1
 dirs : ∀ d ∈ was, dirOkB d = true
 cur : was.getD sq [] = B.dr
 chg : ∀ j, bs ≤ j → j < sq → opOkB (ops j).1 (ops j).2.1 (ops j).2.2 = true ∧ doP (was.getD j []) (ops j).1 (ops j).2.1 (ops j).2.2 = (was.getD (j + 1) [], true)
 rg : ∀ j, bs ≤ j → j < sf → at6 B.rg ((j + 1 : Nat) : Int) = recT (j + 1) (ops j)
 st : ∀ q : Int, (sf : Int) < q → recAtB B.rg q = false
 pd : B.pd = draftW B.df B.at_ (was.getD B.df.toNat []) ++ recW ops sf (sq - sf)
 hm : B.hm.getD B.at_.toNat ⟨#[]⟩ = showHomeB bs (was.getD bs [])
 ho : (homeP (B.hm.getD (1 - B.at_).toNat ⟨#[]⟩)).2 = true → (homeP (B.hm.getD (1 - B.at_).toNat ⟨#[]⟩)).1.1 < bs
 df : B.df = 0 ∨ B.df = sf
section
variable {B : BookD} {was : List (List EntD)} {ops : Nat → Int × ByteArray × Int} {bs sf sq : Nat}
theorem JB.bd (h : JB B was ops bs sf sq) : bs ≤ sf ∧ sf ≤ sq ∧ sq ≤ bs + 6 ∧ sq ≤ 1000000 ∧ B.rg.length = 6 ∧ B.hm.length = 2 ∧ (B.at_ = 0 ∨ B.at_ = 1) ∧ (B.df ≠ 0 → bs < sf) := by
 obtain ⟨p, r, hh, q, d, hb, f, m, ss, a, c⟩ := bk_is h.ok
 have h1 := h.ebs
 have h2 := h.esf
 have h3 := h.esq
 have h4 := h.df
 rw [inI_t] at hb a
 exact ⟨by omega, by omega, by omega, by omega, r, hh, by omega, fun h5 => by rcases c with c | c <;> omega⟩
/-- What stands in the ring and in the homes when some of the writes were done: 'sel i' says which. -/
structure WrX (B : BookD) (was : List (List EntD)) (ops : Nat → Int × ByteArray × Int) (bs sf n : Nat) (dr : Bool) (sel : Nat → Bool) (R : List ByteArray × List ByteArray) : Prop where
 l1 : R.1.length = 6
 l2 : R.2.length = 2
 rg : ∀ j, bs ≤ j → j < sf → at6 R.1 ((j + 1 : Nat) : Int) = recT (j + 1) (ops j)
 yes : ∀ i, i < n → sel i = true → at6 R.1 ((sf + i + 1 : Nat) : Int) = recT (sf + i + 1) (ops (sf + i))
 no : ∀ q : Int, (sf : Int) < q → (∀ i, i < n → sel i = true → q ≠ ((sf + i + 1 : Nat) : Int)) → recAtB R.1 q = false
 hm : R.2.getD B.at_.toNat ⟨#[]⟩ = showHomeB bs (was.getD bs [])
 ho : if dr = true then R.2.getD (1 - B.at_).toNat ⟨#[]⟩ = showHomeB sf (was.getD sf []) ∧ bs < sf else (homeP (R.2.getD (1 - B.at_).toNat ⟨#[]⟩)).2 = true → (homeP (R.2.getD (1 - B.at_).toNat ⟨#[]⟩)).1.1 < bs
theorem WrX.put (hJ : JB B was ops bs sf sq) {n : Nat} {dr : Bool} {sel : Nat → Bool} {R : List ByteArray × List ByteArray} (h : WrX B was ops bs sf n dr sel R) (hn : sf + n < sq) :
  WrX B was ops bs sf (n + 1) dr sel (wrB R (((sf + n + 1 : Nat) : Int) % 6, recT (sf + n + 1) (ops (sf + n)))) ∨ sel n = false := by
 rcases hs : sel n with _ | _
 ·exact .inr rfl
 left
 obtain ⟨b1, b2, b3, b4, _⟩ := hJ.bd
 obtain ⟨R1, R2⟩ := R
 have l1 := h.l1
 simp only at l1
 have hm := m6 ((sf + n + 1 : Nat) : Int)
 have ho := (hJ.chg (sf + n) (by omega) hn).1
 have ew : wrB (R1, R2) (((sf + n + 1 : Nat) : Int) % 6, recT (sf + n + 1) (ops (sf + n))) = (R1.set (((sf + n + 1 : Nat) : Int) % 6).toNat (recT (sf + n + 1) (ops (sf + n))), R2) := by unfold wrB; rw [if_pos (by exact hm.2)]
 rw [ew]
 refine ⟨by simp only [List.length_set]; exact l1, h.l2, fun j h1 h2 => ?_, fun i hi hsi => ?_, fun q hq hno => ?_, h.hm, h.ho⟩
 ·simp only
  rw [at6_set l1 _ hm, if_neg (by omega)]
  exact h.rg j h1 h2
 ·simp only
  rw [at6_set l1 _ hm]
  split
  ·obtain rfl : i = n := by omega
   rfl
  ·rename_i hne
   rcases Nat.lt_or_ge i n with h1 | h1
   ·exact h.yes i h1 hsi
   ·obtain rfl : i = n := by omega
    exact absurd rfl hne
 ·simp only
  by_cases hq6 : q % 6 = ((sf + n + 1 : Nat) : Int) % 6
  ·refine recAt_other (j := sf + n + 1) (by omega) (by omega) ho ?_ (hno n (by omega) hs)
   rw [at6_set l1 _ hm, if_pos hq6]
  ·have h1 := h.no q hq fun i hi hsi => hno i (by omega) hsi
   unfold recAtB at h1 ⊢
   simp only at h1
   rw [at6_set l1 _ hm, if_neg hq6]
   exact h1
end

section
variable {B : BookD} {was : List (List EntD)} {ops : Nat → Int × ByteArray × Int} {bs sf sq : Nat}
theorem wrs_wrm (m : Int) (rg hm : List ByteArray) (pd : List (Int × ByteArray)) : ∀ n, n ≤ pd.length → (∀ k, k < n → bitB m k = true) → wrsB rg hm pd n = wrmB m rg hm pd n
 | 0, _, _ => wrs_0 rg hm pd
 | n + 1, hn, hb => by
  rw [wrs_succ (by omega), wrm_on (by omega) (hb n (by omega)), wrs_wrm m rg hm pd n (by omega) (fun k hk => hb k (by omega))]
theorem allBits : ∀ k, k < 20 → bitB 1048575 k = true := by decide
end

end Go.Proofs.YtghgafbfpejinaaGreatDoor
