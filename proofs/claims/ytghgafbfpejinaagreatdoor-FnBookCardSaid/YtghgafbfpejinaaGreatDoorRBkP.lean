/- What is done to a book: plain Lean. A right book stays right. -/
import Derived.Test.YtghgafbfpejinaaGreatDoorRRecQ
import Derived.Test.YtghgafbfpejinaaGreatDoorROp2
namespace Go.Proofs.YtghgafbfpejinaaGreatDoor
open Go Go.RowKit

theorem alike_key {a b : ByteArray} (h : alikeB a b = true) : nameOkB a = true ∧ nameOkB b = true ∧ keyB a = keyB b := by
 unfold alikeB at h
 simp only [Bool.and_eq_true] at h
 exact ⟨h.1.1, h.1.2, (@decide_eq_true_iff _ (Classical.propDecidable _)).1 h.2⟩
theorem spellP_ok {ds : List EntD} (hd : dirOkB ds = true) (s : ByteArray) (id : Int) : dirOkB (spellP ds s id).1 = true := by
 by_cases hc : ds.find? (isN s) = none ∨ inI id 1 100000 = false
 ·rw [spellP_no hd hc]; exact hd
 ·obtain ⟨e, hf⟩ : ∃ e, ds.find? (isN s) = some e := by
   rcases h : ds.find? (isN s) with _ | e
   ·exact absurd (.inl h) hc
   ·exact ⟨e, rfl⟩
  have hi : inI id 1 100000 = true := by
   rcases h : inI id 1 100000 with _ | _
   ·exact absurd (.inr h) hc
   ·rfl
  obtain ⟨k, hk, rfl⟩ := List.getElem_of_mem (List.mem_of_find?_eq_some hf)
  rw [spellP_yes hd hk hf hi]
  obtain ⟨h1, h2, h3⟩ := dirOk_pw.1 hd
  obtain ⟨_, hn, hkey⟩ := alike_key (show alikeB ds[k].s s = true from List.find?_some (p := isN s) hf)
  have hek := h2 _ (List.getElem_mem hk)
  have hh : hashI s = ds[k].h := by
   unfold entOkB at hek
   simp only [Bool.and_eq_true, beq_iff_eq] at hek
   rw [← hek.2.1, hashI_ok hn, hashI_ok hek.1, hkey]
  have hsp : ds = ds.take k ++ ds[k] :: ds.drop (k + 1) := by rw [← List.drop_eq_getElem_cons hk, List.take_append_drop]
  obtain ⟨e, he⟩ : ∃ e, ds[k] = e := ⟨_, rfl⟩
  rw [he] at hkey hek hh hsp ⊢
  show dirOkB (ds.take k ++ [⟨e.h, e.i, s, id⟩] ++ ds.drop (k + 1)) = true
  rw [List.append_assoc, List.singleton_append]
  rw [hsp] at h3 h1
  refine dirOk_pw.2 ⟨by simpa using h1, fun x hx => ?_, ?_⟩
  ·rcases List.mem_append.1 hx with hx | hx
   ·exact h2 x (List.mem_of_mem_take hx)
   ·rcases List.mem_cons.1 hx with rfl | hx
    ·unfold entOkB at hek ⊢
     simp only [Bool.and_eq_true, beq_iff_eq] at hek ⊢
     exact ⟨hn, hh, hek.2.2.1, hi⟩
    ·exact h2 x (List.mem_of_mem_drop hx)
  ·rw [List.pairwise_append, List.pairwise_cons] at h3 ⊢
   refine ⟨h3.1, ⟨fun b hb => ?_, h3.2.1.2⟩, fun a ha b hb => ?_⟩
   ·have := h3.2.1.1 b hb
    exact ⟨this.1, fun h => this.2 (hkey.trans h)⟩
   ·rcases List.mem_cons.1 hb with rfl | hb
    ·have := h3.2.2 a ha e (by simp)
     exact ⟨this.1, fun h => this.2 (h.trans hkey.symm)⟩
    ·exact h3.2.2 a ha b (by simp [hb])
theorem doP_ok {ds : List EntD} (hd : dirOkB ds = true) (k : Int) (s : ByteArray) (id : Int) : dirOkB (doP ds k s id).1 = true := by
 unfold doP
 split
 ·exact addP_ok hd s id
 ·split
  ·exact dropP_ok hd s
  ·split
   ·exact spellP_ok hd s id
   ·first | exact hd | (rw [if_pos hd]; exact hd)

/-- A change of a book; is it done? -/
noncomputable def doBk (B : BookD) (k : Int) (s : ByteArray) (i : Int) : BookD × Bool := open Classical in
 if bookOkB B = true then
  if opOkB k s i = true ∧ (doP B.dr k s i).2 = true ∧ B.sq < B.bs + 6 ∧ B.sq < 1000000 ∧ B.pd.length < 20
  then (⟨B.rg, B.hm, B.pd ++ [((B.sq + 1) % 6, showRecB (B.sq + 1) (showOpB k s i))], (doP B.dr k s i).1, B.sq + 1, B.bs, B.sf, B.at_, B.df⟩, true)
  else (B, false)
 else (zeroBk, false)
theorem doBk_bad {B : BookD} {k : Int} {s : ByteArray} {i : Int} (h : bookOkB B = false) : doBk B k s i = (zeroBk, false) := by unfold doBk; rw [if_neg (by rw [h]; simp)]
theorem doBk_no {B : BookD} {k : Int} {s : ByteArray} {i : Int} (h : bookOkB B = true) (h2 : ¬ (opOkB k s i = true ∧ (doP B.dr k s i).2 = true ∧ B.sq < B.bs + 6 ∧ B.sq < 1000000 ∧ B.pd.length < 20)) : doBk B k s i = (B, false) := by
 unfold doBk; rw [if_pos h, if_neg h2]
theorem doBk_yes {B : BookD} {k : Int} {s : ByteArray} {i : Int} (h : bookOkB B = true) (h2 : opOkB k s i = true ∧ (doP B.dr k s i).2 = true ∧ B.sq < B.bs + 6 ∧ B.sq < 1000000 ∧ B.pd.length < 20) :
  doBk B k s i = (⟨B.rg, B.hm, B.pd ++ [((B.sq + 1) % 6, showRecB (B.sq + 1) (showOpB k s i))], (doP B.dr k s i).1, B.sq + 1, B.bs, B.sf, B.at_, B.df⟩, true) := by
 unfold doBk; rw [if_pos h, if_pos h2]
/-- A home is drafted; is it? -/
noncomputable def homeBk (B : BookD) : BookD × Bool := open Classical in
 if bookOkB B = true then
  if B.df ≠ 0 ∨ B.sq = B.bs then (B, false)
  else (⟨(flB B).rg, (flB B).hm, [(7 - (flB B).at_, showHomeB B.sq B.dr)], B.dr, B.sq, (flB B).bs, B.sq, (flB B).at_, B.sq⟩, true)
 else (zeroBk, false)
theorem homeBk_bad {B : BookD} (h : bookOkB B = false) : homeBk B = (zeroBk, false) := by unfold homeBk; rw [if_neg (by rw [h]; simp)]
theorem homeBk_no {B : BookD} (h : bookOkB B = true) (h2 : B.df ≠ 0 ∨ B.sq = B.bs) : homeBk B = (B, false) := by unfold homeBk; rw [if_pos h, if_pos h2]
theorem homeBk_yes {B : BookD} (h : bookOkB B = true) (h2 : ¬ (B.df ≠ 0 ∨ B.sq = B.bs)) : homeBk B = (⟨(flB B).rg, (flB B).hm, [(7 - (flB B).at_, showHomeB B.sq B.dr)], B.dr, B.sq, (flB B).bs, B.sq, (flB B).at_, B.sq⟩, true) := by
 unfold homeBk; rw [if_pos h, if_neg h2]

theorem doBk_ok {B B' : BookD} {k : Int} {s : ByteArray} {i : Int} {b : Bool} (h : bookOkB B = true) (hd : doBk B k s i = (B', b)) : bookOkB B' = true := by
 by_cases h2 : opOkB k s i = true ∧ (doP B.dr k s i).2 = true ∧ B.sq < B.bs + 6 ∧ B.sq < 1000000 ∧ B.pd.length < 20
 ·rw [doBk_yes h h2] at hd
  injection hd with hd _
  subst hd
  obtain ⟨p, r, hh, q, d, hb, f, m, ss, a, c⟩ := bk_is h
  obtain ⟨_, _, h3, h4, h5⟩ := h2
  rw [inI_t] at hb
  refine bk_yes ⟨fun e he => ?_, r, hh, by simp; omega, doP_ok d k s i, inI_t.2 hb, by show B.sf ≤ B.sq + 1; omega, by show B.sq + 1 ≤ 1000000; omega, by show B.sq + 1 ≤ B.bs + 6; omega, a, ?_⟩
  ·rcases List.mem_append.1 he with he | he
   ·exact p e he
   ·rw [List.mem_singleton] at he; subst he
    exact inI_t.2 ⟨by show 0 ≤ (B.sq + 1) % 6; omega, by show (B.sq + 1) % 6 ≤ 7; omega⟩
  ·rcases c with c | c
   ·exact .inl c
   ·exact .inr ⟨c.1, by show B.df ≤ B.sq + 1; omega⟩
 ·rw [doBk_no h h2] at hd
  injection hd with hd _
  subst hd
  exact h
theorem flB_ok {B : BookD} (h : bookOkB B = true) : bookOkB (flB B) = true := by
 obtain ⟨p, r, hh, q, d, hb, f, m, ss, a, c⟩ := bk_is h
 obtain ⟨l1, l2⟩ := fl_len r hh
 rw [inI_t] at hb a
 refine bk_yes ⟨fun e he => absurd he (List.not_mem_nil), l1, l2, by show 0 ≤ 20; omega, d, ?_, Int.le_refl _, m, ?_, ?_, .inl rfl⟩
 ·rw [inI_t]; show 0 ≤ (if B.df = 0 then B.bs else B.df) ∧ (if B.df = 0 then B.bs else B.df) ≤ B.sq
  split <;> omega
 ·show B.sq ≤ (if B.df = 0 then B.bs else B.df) + 6
  split <;> omega
 ·rw [inI_t]; show 0 ≤ (if B.df = 0 then B.at_ else 1 - B.at_) ∧ (if B.df = 0 then B.at_ else 1 - B.at_) ≤ 1
  split <;> omega
theorem homeBk_ok {B B' : BookD} {b : Bool} (h : bookOkB B = true) (hd : homeBk B = (B', b)) : bookOkB B' = true := by
 by_cases h2 : B.df ≠ 0 ∨ B.sq = B.bs
 ·rw [homeBk_no h h2] at hd
  injection hd with hd _
  subst hd
  exact h
 ·rw [homeBk_yes h h2] at hd
  injection hd with hd _
  subst hd
  obtain ⟨p, r, hh, q, d, hb, f, m, ss, a, c⟩ := bk_is (flB_ok h)
  have hdf : B.df = 0 := by rcases Int.decEq B.df 0 with h3 | h3; exact absurd (.inl h3) h2; exact h3
  have hne : B.sq ≠ B.bs := fun e => h2 (.inr e)
  have hbs : (flB B).bs = B.bs := by show (if B.df = 0 then B.bs else B.df) = B.bs; rw [if_pos hdf]
  have hsf : (flB B).sf = B.sq := rfl
  have hsq : (flB B).sq = B.sq := rfl
  rw [inI_t] at hb a
  refine bk_yes ⟨fun e he => ?_, r, hh, by show 1 ≤ 20; omega, d, inI_t.2 (by show 0 ≤ (flB B).bs ∧ (flB B).bs ≤ B.sq; omega), Int.le_refl _, m, ss, inI_t.2 a, .inr ⟨?_, Int.le_refl _⟩⟩
  ·rw [List.mem_singleton] at he; subst he
   exact inI_t.2 ⟨by show 0 ≤ 7 - (flB B).at_; omega, by show 7 - (flB B).at_ ≤ 7; omega⟩
  ·show (flB B).bs < B.sq
   omega
/-- What a fall reads of a ring: a right directory, a number not too great. -/
theorem fallS_ok {L : List ByteArray} {ds ds' : List EntD} {q : Int} (hd : dirOkB ds = true) (h : fallS L ds q = some ds') : dirOkB ds' = true ∧ q + 1 ≤ 1000000 := by
 have h0 := fallS_rec h
 unfold fallS at h
 split at h
 ·injection h with h
  refine ⟨by rw [← h]; exact doP_ok hd _ _ _, ?_⟩
  unfold recAtB at h0
  simp only [Bool.and_eq_true, decide_eq_true_eq] at h0
  obtain ⟨_, h1, h2⟩ := h0
  rcases hr : recP (at6 L (q + 1)) with ⟨a, t, c⟩
  rw [hr] at h1 h2
  simp only at h1 h2
  subst h1
  have h3 := (rec_inv hr).1
  unfold okR at h3
  rw [Bool.and_eq_true] at h3
  have := inI_t.1 h3.1
  omega
 ·cases h
theorem fallN_ok (L : List ByteArray) : ∀ (n : Nat) (ds : List EntD) (q : Int) (rg : List ByteArray), dirOkB ds = true → q ≤ 1000000 →
  dirOkB (fallN L n ds q rg).1 = true ∧ q ≤ (fallN L n ds q rg).2.1 ∧ (fallN L n ds q rg).2.1 ≤ q + n ∧ (fallN L n ds q rg).2.1 ≤ 1000000
 | 0, ds, q, rg, hd, hq => ⟨hd, Int.le_refl _, by show q ≤ q + (0 : Nat); omega, hq⟩
 | n + 1, ds, q, rg, hd, hq => by
  cases h : fallS L ds q with
  | none => rw [fallN_stop h]; exact ⟨hd, Int.le_refl _, by show q ≤ q + ((n + 1 : Nat) : Int); omega, hq⟩
  | some ds' =>
   rw [fallN_go h]
   obtain ⟨h1, h2⟩ := fallS_ok hd h
   obtain ⟨a, b, c, d⟩ := fallN_ok L n ds' (q + 1) (rg.set ((q + 1) % 6).toNat (at6 L (q + 1))) h1 h2
   exact ⟨a, by omega, by omega, d⟩
theorem fall_ok {B B' : BookD} {m : Int} {b : Bool} (h : bookOkB B = true) (hf : fallP B m = (B', b)) : bookOkB B' = true ∧ (b = true → B'.pd = [] ∧ B'.sf = B'.sq) := by
 obtain ⟨p, r, hh, q, d, hb, f, mm, ss, a, c⟩ := bk_is h
 obtain ⟨⟨rg, hm⟩, hw⟩ : ∃ p, wrmB m B.rg B.hm B.pd B.pd.length = p := ⟨_, rfl⟩
 have hl := wrm_len (m := m) (rg := B.rg) (hm := B.hm) (pd := B.pd) B.pd.length
 rw [hw] at hl
 simp only at hl
 by_cases ha : (hmN hm 2).at_ < 0
 ·rw [fall_none h hw ha] at hf
  injection hf with h1 h2
  subst h1 h2
  exact ⟨h, fun h => by cases h⟩
 ·have hok := hmN_ok hm 2 (Nat.le_refl _)
  rw [fall_some h hw ha rfl] at hf
  injection hf with h1 h2
  subst h1 h2
  have h3 := hok.2 ha
  have h4 := fallN_ok rg 6 (hmN hm 2).dr (hmN hm 2).bs (List.replicate 6 ⟨#[]⟩) h3.2.2 h3.2.1
  have hn := fallN_len rg 6 (hmN hm 2).dr (hmN hm 2).bs (List.replicate 6 ⟨#[]⟩)
  refine ⟨bk_yes ⟨fun e he => absurd he (List.not_mem_nil), by show List.length _ = 6; rw [hn.2]; simp, by show hm.length = 2; omega, by show 0 ≤ 20; omega, h4.1, inI_t.2 ⟨h3.1, h4.2.1⟩, Int.le_refl _, h4.2.2.2, h4.2.2.1, ?_, .inl rfl⟩, fun _ => ⟨rfl, rfl⟩⟩
  have := hok.1
  exact inI_t.2 ⟨by show 0 ≤ (hmN hm 2).at_; omega, by show (hmN hm 2).at_ ≤ 1; omega⟩

end Go.Proofs.YtghgafbfpejinaaGreatDoor
