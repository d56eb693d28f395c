/- What a book holds of the past stays through changes, drafts, flushes and falls. Plain Lean. -/
import Derived.Test.YtghgafbfpejinaaGreatDoorRBkJ
namespace Go.Proofs.YtghgafbfpejinaaGreatDoor
open Go Go.RowKit

section
variable {B : BookD} {was : List (List EntD)} {ops : Nat → Int × ByteArray × Int} {bs sf sq : Nat}
theorem wrm_rec (hJ : JB B was ops bs sf sq) {m : Int} {k0 : Nat} {dr : Bool} (hpd : B.pd.length = k0 + (sq - sf)) (hg : ∀ i, i < sq - sf → B.pd[k0 + i]? = some (((sf + i + 1 : Nat) : Int) % 6, recT (sf + i + 1) (ops (sf + i))))
  (h0 : WrX B was ops bs sf 0 dr (fun i => bitB m (k0 + i)) (wrmB m B.rg B.hm B.pd k0)) : ∀ n, n ≤ sq - sf → WrX B was ops bs sf n dr (fun i => bitB m (k0 + i)) (wrmB m B.rg B.hm B.pd (k0 + n))
 | 0, _ => h0
 | n + 1, hn => by
  have h1 := wrm_rec hJ hpd hg h0 n (by omega)
  have hk : k0 + n < B.pd.length := by omega
  have he := hg n (by omega)
  rw [List.getElem?_eq_getElem hk] at he
  have he := Option.some.inj he
  rw [← Nat.add_assoc]
  rcases hb : bitB m (k0 + n) with _ | _
  ·rw [wrm_off hk hb]
   exact h1.skip hb
  ·rw [wrm_on hk hb, he]
   rcases h1.put hJ (by omega) with h2 | h2
   ·exact h2
   ·rw [hb] at h2; cases h2
theorem recW_get (ops : Nat → Int × ByteArray × Int) (sf n i : Nat) (hi : i < n) : (recW ops sf n)[i]? = some (((sf + i + 1 : Nat) : Int) % 6, recT (sf + i + 1) (ops (sf + i))) := by
 unfold recW
 rw [List.getElem?_map, List.getElem?_range hi]
 rfl
theorem wrm_char (hJ : JB B was ops bs sf sq) (m : Int) : ∃ (k0 : Nat) (dr : Bool), (B.df = 0 → k0 = 0 ∧ dr = false) ∧ (B.df ≠ 0 → k0 = 1 ∧ dr = bitB m 0) ∧ WrX B was ops bs sf (sq - sf) dr (fun i => bitB m (k0 + i)) (wrmB m B.rg B.hm B.pd B.pd.length) := by
 have hp := hJ.pd
 by_cases hdf : B.df = 0
 ·have hp' : B.pd = recW ops sf (sq - sf) := by rw [hp]; unfold draftW; rw [if_pos hdf]; rfl
  have hl : B.pd.length = 0 + (sq - sf) := by rw [hp', recW_len]; omega
  refine ⟨0, false, fun _ => ⟨rfl, rfl⟩, fun h => absurd hdf h, ?_⟩
  have h1 := wrm_rec (m := m) hJ hl (fun i hi => by rw [hp', Nat.zero_add]; exact recW_get ops sf _ i hi) (WrX.start hJ _) (sq - sf) (Nat.le_refl _)
  rw [hl]
  exact h1
 ·have hp' : B.pd = (7 - B.at_, showHomeB B.df (was.getD B.df.toNat [])) :: recW ops sf (sq - sf) := by rw [hp]; unfold draftW; rw [if_neg hdf]; rfl
  have hl : B.pd.length = 1 + (sq - sf) := by rw [hp', List.length_cons, recW_len]; omega
  have hg : ∀ i, i < sq - sf → B.pd[1 + i]? = some (((sf + i + 1 : Nat) : Int) % 6, recT (sf + i + 1) (ops (sf + i))) := fun i hi => by
   rw [hp', show 1 + i = i + 1 by omega, List.getElem?_cons_succ]; exact recW_get ops sf _ i hi
  have h1 : 0 < B.pd.length := by omega
  have he : B.pd[0] = (7 - B.at_, showHomeB B.df (was.getD B.df.toNat [])) := by simp only [hp', List.getElem_cons_zero]
  rcases hb : bitB m 0 with _ | _
  ·refine ⟨1, false, fun h => absurd h hdf, fun _ => ⟨rfl, rfl⟩, ?_⟩
   have hw : wrmB m B.rg B.hm B.pd 1 = (B.rg, B.hm) := by rw [wrm_off h1 hb]; rfl
   rw [hl]
   exact wrm_rec hJ hl hg (by rw [hw]; exact WrX.start hJ _) (sq - sf) (Nat.le_refl _)
  ·refine ⟨1, true, fun h => absurd h hdf, fun _ => ⟨rfl, rfl⟩, ?_⟩
   have hw : wrmB m B.rg B.hm B.pd 1 = wrB (B.rg, B.hm) (7 - B.at_, showHomeB B.df (was.getD B.df.toNat [])) := by rw [wrm_on h1 hb, he]; rfl
   rw [hl]
   exact wrm_rec hJ hl hg (by rw [hw]; exact WrX.draft hJ hdf (WrX.start hJ _)) (sq - sf) (Nat.le_refl _)
theorem wrs_wrm (m : Int) (rg hm : List ByteArray) (pd : List (Int × ByteArray)) : ∀ n, n ≤ pd.length → (∀ k, k < n → bitB m k = true) → wrsB rg hm pd n = wrmB m rg hm pd n
 | 0, _, _ => wrs_0 rg hm pd
 | n + 1, hn, hb => by
  rw [wrs_succ (by omega), wrm_on (by omega) (hb n (by omega)), wrs_wrm m rg hm pd n (by omega) (fun k hk => hb k (by omega))]
theorem allBits : ∀ k, k < 20 → bitB 1048575 k = true := by decide
theorem home_read {q : Nat} {d : List EntD} (hq : q ≤ 1000000) (hd : dirOkB d = true) : homeP (showHomeB (q : Int) d) = (((q : Int), d), true) := homeP_show (inI_t.2 ⟨by omega, by omega⟩) hd

/-- Flushed. -/
theorem JB.flush (hJ : JB B was ops bs sf sq) : JB (flB B) was ops (if B.df = 0 then bs else sf) sq sq := by
 obtain ⟨b1, b2, b3, b4, r, hh, ha, hlt⟩ := hJ.bd
 obtain ⟨k0, dr, hc1, hc2, hX⟩ := wrm_char hJ 1048575
 have h20 : B.pd.length ≤ 20 := (bk_is hJ.ok).q
 have hw := wrs_wrm 1048575 B.rg B.hm B.pd B.pd.length (Nat.le_refl _) (fun k hk => allBits k (by omega))
 rw [← hw] at hX
 have hk1 : k0 ≤ 1 := by
  by_cases h : B.df = 0
  ·have := (hc1 h).1; omega
  ·have := (hc2 h).1; omega
 have hlen : B.pd.length = k0 + (sq - sf) := by
  have hp := hJ.pd
  have := congrArg List.length hp
  rw [List.length_append, recW_len] at this
  unfold draftW at this
  by_cases h : B.df = 0
  ·rw [if_pos h] at this; have := (hc1 h).1; simp at *; omega
  ·rw [if_neg h] at this; have := (hc2 h).1; simp at *; omega
 have hsel : ∀ i, i < sq - sf → bitB 1048575 (k0 + i) = true := fun i hi => allBits _ (by omega)
 have hrg : ∀ j, bs ≤ j → j < sq → at6 (flB B).rg ((j + 1 : Nat) : Int) = recT (j + 1) (ops j) := fun j h1 h2 => by
  rcases Nat.lt_or_ge j sf with h3 | h3
  ·exact hX.rg j h1 h3
  ·obtain ⟨i, rfl⟩ : ∃ i, j = sf + i := ⟨j - sf, by omega⟩
   exact hX.yes i (by omega) (hsel i (by omega))
 have hst : ∀ q : Int, (sq : Int) < q → recAtB (flB B).rg q = false := fun q hq => hX.no q (by omega) fun i hi _ => by omega
 have hpd : ([] : List (Int × ByteArray)) = draftW 0 (flB B).at_ (was.getD (0 : Int).toNat []) ++ recW ops sq (sq - sq) := by unfold draftW recW; simp
 by_cases hdf : B.df = 0
 ·obtain ⟨hk, hdr⟩ := hc1 hdf
  subst hk hdr
  have eat : (flB B).at_ = B.at_ := by show (if B.df = 0 then B.at_ else 1 - B.at_) = B.at_; rw [if_pos hdf]
  have ebs : (flB B).bs = bs := by show (if B.df = 0 then B.bs else B.df) = (bs : Int); rw [if_pos hdf]; exact hJ.ebs
  rw [if_pos hdf]
  refine ⟨flB_ok hJ.ok, ebs, hJ.esq, hJ.esq, hJ.len, hJ.dirs, hJ.cur, hJ.chg, hrg, hst, hpd, by rw [eat]; exact hX.hm, ?_, .inl rfl⟩
  have := hX.ho
  simp only [Bool.false_eq_true, if_false] at this
  rw [eat]
  exact this
 ·obtain ⟨hk, hdr⟩ := hc2 hdf
  have hdr1 : dr = true := by rw [hdr]; decide
  subst hdr1
  have hsf : B.df = sf := by rcases hJ.df with h | h; exact absurd h hdf; exact h
  have eat : (flB B).at_ = 1 - B.at_ := by show (if B.df = 0 then B.at_ else 1 - B.at_) = 1 - B.at_; rw [if_neg hdf]
  have ebs : (flB B).bs = sf := by show (if B.df = 0 then B.bs else B.df) = (sf : Int); rw [if_neg hdf]; exact hsf
  rw [if_neg hdf]
  have hho := hX.ho
  rw [if_pos rfl] at hho
  refine ⟨flB_ok hJ.ok, ebs, hJ.esq, hJ.esq, hJ.len, hJ.dirs, hJ.cur, fun j h1 h2 => hJ.chg j (by omega) h2, fun j h1 h2 => hrg j (by omega) h2, hst, hpd, by rw [eat]; exact hho.1, ?_, .inl rfl⟩
  rw [eat, show (1 : Int) - (1 - B.at_) = B.at_ by omega]
  intro _
  have e : (flB B).hm.getD B.at_.toNat ⟨#[]⟩ = showHomeB bs (was.getD bs []) := hX.hm
  rw [e, home_read (by omega) (hJ.dir (by omega))]
  show (bs : Int) < (sf : Int)
  have := hlt hdf
  omega
/-- Drafted. -/
theorem JB.home (hJ : JB B was ops bs sf sq) {B' : BookD} {b : Bool} (h : homeBk B = (B', b)) : (b = false ∧ B' = B) ∨ (b = true ∧ JB B' was ops bs sq sq) := by
 by_cases h2 : B.df ≠ 0 ∨ B.sq = B.bs
 ·rw [homeBk_no hJ.ok h2] at h
  injection h with h1 h2
  exact .inl ⟨h2.symm, h1.symm⟩
 ·have hok := homeBk_ok hJ.ok h
  rw [homeBk_yes hJ.ok h2] at h
  injection h with h1 h3
  right
  refine ⟨h3.symm, ?_⟩
  have hdf : B.df = 0 := by rcases Int.decEq B.df 0 with h | h; exact absurd (.inl h) h2; exact h
  have hF := hJ.flush
  rw [if_pos hdf] at hF
  obtain ⟨b1, b2, b3, b4, _⟩ := hJ.bd
  have hne : B.sq ≠ B.bs := fun e => h2 (.inr e)
  have e1 := hJ.esq
  have e2 := hJ.ebs
  subst h1
  refine ⟨hok, hF.ebs, hF.esf, hF.esq, hF.len, hF.dirs, hF.cur, hF.chg, hF.rg, hF.st, ?_, hF.hm, hF.ho, .inr (by show B.sq = (sq : Int); exact e1)⟩
  show [(7 - (flB B).at_, showHomeB B.sq B.dr)] = draftW B.sq (flB B).at_ (was.getD B.sq.toNat []) ++ recW ops sq (sq - sq)
  unfold draftW recW
  rw [if_neg (by omega), show B.sq.toNat = sq by omega, hJ.cur]
  simp
/-- Changed. -/
theorem JB.chgd (hJ : JB B was ops bs sf sq) {k : Int} {s : ByteArray} {i : Int} {B' : BookD} {b : Bool} (h : doBk B k s i = (B', b)) :
  (b = false ∧ B' = B) ∨ (b = true ∧ (doP B.dr k s i).2 = true ∧ B'.dr = (doP B.dr k s i).1 ∧ B'.sq = B.sq + 1 ∧ JB B' (was ++ [(doP B.dr k s i).1]) (fun j => if j = sq then (k, s, i) else ops j) bs sf (sq + 1)) := by
 by_cases h2 : opOkB k s i = true ∧ (doP B.dr k s i).2 = true ∧ B.sq < B.bs + 6 ∧ B.sq < 1000000 ∧ B.pd.length < 20
 ·have hok := doBk_ok hJ.ok h
  rw [doBk_yes hJ.ok h2] at h
  injection h with h1 h3
  right
  obtain ⟨b1, b2, b3, b4, _, _, _, hlt⟩ := hJ.bd
  have e1 := hJ.esq
  have hg : ∀ j, j ≤ sq → (was ++ [(doP B.dr k s i).1]).getD j [] = was.getD j [] := fun j hj => by
   simp only [List.getD]; rw [List.getElem?_append_left (by rw [hJ.len]; omega)]
  have hg1 : (was ++ [(doP B.dr k s i).1]).getD (sq + 1) [] = (doP B.dr k s i).1 := by
   simp only [List.getD]; rw [List.getElem?_append_right (by rw [hJ.len]; omega), hJ.len]; simp
  have ho : ∀ j, j < sq → (if j = sq then (k, s, i) else ops j) = ops j := fun j hj => if_neg (by omega)
  subst h1
  refine ⟨h3.symm, h2.2.1, rfl, rfl, hok, hJ.ebs, hJ.esf, by show B.sq + 1 = _; omega, by rw [List.length_append, hJ.len]; rfl, fun d hd => ?_, hg1, fun j h1 h2' => ?_, fun j h1 h2' => ?_, hJ.st, ?_, by rw [hg bs (by omega)]; exact hJ.hm, hJ.ho, hJ.df⟩
  ·rcases List.mem_append.1 hd with hd | hd
   ·exact hJ.dirs d hd
   ·rw [List.mem_singleton] at hd; rw [hd]
    exact doP_ok (by rw [← hJ.cur]; exact hJ.dir (Nat.le_refl _)) _ _ _
  ·by_cases hj : j = sq
   ·subst hj
    simp only
    refine ⟨h2.1, ?_⟩
    rw [hg j (Nat.le_refl _), hg1, hJ.cur]
    exact Prod.ext rfl h2.2.1
   ·simp only [if_neg hj]
    rw [hg j (by omega), hg (j + 1) (by omega)]
    exact hJ.chg j h1 (by omega)
  ·simp only [if_neg (show ¬ j = sq by omega)]
   exact hJ.rg j h1 h2'
  ·show B.pd ++ [((B.sq + 1) % 6, showRecB (B.sq + 1) (showOpB k s i))] = draftW B.df B.at_ ((was ++ [(doP B.dr k s i).1]).getD B.df.toNat []) ++ recW _ sf (sq + 1 - sf)
   have hdf : B.df.toNat ≤ sq := by rcases hJ.df with h | h <;> omega
   rw [show sq + 1 - sf = (sq - sf) + 1 by omega, recW_succ, hg _ hdf, hJ.pd, List.append_assoc]
   congr 2
   ·unfold recW
    refine List.map_congr_left fun x hx => ?_
    have hx' := List.mem_range.1 hx
    simp only [if_neg (show ¬ sf + x = sq by omega)]
   ·have e : sf + (sq - sf) = sq := by omega
    simp only [e, e1]
    unfold recT
    congr 2
 ·rw [doBk_no hJ.ok h2] at h
  injection h with h1 h2
  exact .inl ⟨h2.symm, h1.symm⟩
end

end Go.Proofs.YtghgafbfpejinaaGreatDoor
