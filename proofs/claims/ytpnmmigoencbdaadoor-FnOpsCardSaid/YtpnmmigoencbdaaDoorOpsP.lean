/- What is shown is read again: changes, directories. Plain Lean. -/
import Derived.Test.YtpnmmigoencbdaaDoorOp3
import Derived.Test.YtpnmmigoencbdaaDoorRHome
namespace Go.Proofs.YtpnmmigoencbdaaDoor
open Go Go.RowKit

theorem valL_varL : ∀ (k n : Nat), n < 128 ^ (k + 1) → valL (varL n) = n
  | 0, n, h => by
    have hn : n < 128 := by simpa using h
    rw [varL_lt hn, valL, valL, toNat_ofNat n (by omega)]
    omega
  | k + 1, n, h => by
    by_cases hn : n < 128
    · rw [varL_lt hn, valL, valL, toNat_ofNat n (by omega)]; omega
    · rw [varL_ge (by omega), valL, valL_varL k (n / 128) (by rw [Nat.pow_succ] at h; omega), toNat_ofNat _ (by omega)]
      omega
theorem rv_var (n : Nat) (h : n ≤ 562949953421311) (l : List UInt8) : rv (varL n ++ l) = (n, (varL n).length) := by
  have hp7 : (128 : Nat) ^ (6 + 1) = 562949953421312 := by decide
  have h7 : (varL n).length ≤ 7 := varL_len 6 n (by rw [hp7]; omega)
  have h1 := varL_pos n
  have hv := valL_varL 6 n (by rw [hp7]; omega)
  have ht : (varL n ++ l).take ((varL n).length - 1 + 1) = varL n := by
    rw [show (varL n).length - 1 + 1 = (varL n).length by omega, List.take_left]
  have hh := rv_hit (l := varL n ++ l) (k := (varL n).length - 1) (by omega) (by rw [List.length_append]; omega) (by rw [ht, hv])
  rw [ht, hv, show (varL n).length - 1 + 1 = (varL n).length by omega] at hh
  exact hh
theorem varB_list {n : Int} (h0 : 0 ≤ n) (h : n ≤ 562949953421311) : (varB n).data.toList = varL n.toNat := by
  unfold varB
  rw [if_pos (inI_true.2 ⟨h0, by unfold maxVar; omega⟩)]
  rfl
/-- A number that stands ahead of a text is read off. -/
theorem scN_var {n : Int} (h0 : 0 ≤ n) (h : n ≤ 562949953421311) (t : ByteArray) : scN (varB n ++ t) false = (n, t, false) := by
  have hl : (varB n ++ t).data.toList = varL n.toNat ++ t.data.toList := by rw [append_list, varB_list h0 h]
  have hr : rvB (varB n ++ t) = (n.toNat, (varL n.toNat).length) := by
    unfold rvB
    rw [hl]
    exact rv_var n.toNat (by omega) _
  have hp := varL_pos n.toNat
  have hd : dropB (varB n ++ t) (varL n.toNat).length = t := by
    apply bytes_ext
    rw [dropB_list, hl, List.drop_left]
  rw [scN_go _ (by rw [hr]; simp only; omega), hr]
  simp only [hd]
  congr 1
  omega
theorem opOk_bd {k i : Int} {s : ByteArray} (h : opOkB k s i = true) : 0 ≤ k ∧ k ≤ 3 ∧ 0 ≤ i ∧ i ≤ 100000 := by
  unfold opOkB at h
  split at h
  · simp at h; omega
  · simp [inI] at h; omega
/-- A right change is read from its text. -/
theorem opP_show {k i : Int} {s : ByteArray} (h : opOkB k s i = true) : opP (showOpB k s i) = ((k, s, i), true) := by
  obtain ⟨hk0, hk1, hi0, hi1⟩ := opOk_bd h
  have hs : showOpB k s i = varB k ++ (varB i ++ s) := by unfold showOpB; rw [if_pos h, ByteArray.append_assoc]
  have h1 : sc1 (showOpB k s i) = (k, varB i ++ s, false) := by unfold sc1; rw [hs]; exact scN_var hk0 (by omega) _
  have h2 : sc2 (showOpB k s i) = (i, s, false) := by unfold sc2; rw [h1]; exact scN_var hi0 (by omega) _
  apply opP_some
  rw [opOf_yes _ (by rw [h2]), h1, h2]
  exact if_pos ⟨h, rfl⟩
theorem opP_empty : (opP (str [])).2 = false := by
  cases h : (opP (str [])).2
  · rfl
  · exfalso
    cases ho : opOf (str []) with
    | none => rw [opP_none _ ho] at h; cases h
    | some x =>
      rcases hb : (sc2 (str [])).2.2 with _ | _
      · have h1 := (sc2_yes _ hb).1
        exact absurd h1 (by decide)
      · rw [opOf_no _ hb] at ho; cases ho
theorem showOp_no {k i : Int} {s : ByteArray} (h : opOkB k s i = false) : showOpB k s i = str [] := by unfold showOpB; rw [if_neg (by rw [h]; simp)]
/-- What is read is shown as it was. -/
theorem opP_back {s : ByteArray} {k i : Int} {t : ByteArray} (h : opP s = ((k, t, i), true)) : showOpB k t i = s := by
  cases ho : opOf s with
  | none => rw [opP_none s ho] at h; cases h
  | some x =>
    rw [opP_some s ho] at h
    injection h with h1 _
    subst h1
    rcases hb : (sc2 s).2.2 with _ | _
    · rw [opOf_yes s hb] at ho
      split at ho
      · rename_i h2
        injection ho with ho
        injection ho with h3 h4
        injection h4 with h4 h5
        rw [← h3, ← h4, ← h5]; exact h2.2
      · cases ho
    · rw [opOf_no s hb] at ho; cases ho

/-! ### Directories -/
theorem scC_app (a t : ByteArray) : scC (a ++ t) false (a.size : Int) = (a, t, false) := by
  have h1 : inI (a.size : Int) 0 ((a ++ t).size : Int) = true := inI_true.2 ⟨by omega, by rw [ByteArray.size_append]; omega⟩
  have ha : a.data.toList.length = a.size := by rw [Array.length_toList]; rfl
  have h2 : takeB (a ++ t) a.size = a := by
    apply bytes_ext
    rw [takeB_list, append_list, ← ha, List.take_left]
  have h3 : dropB (a ++ t) a.size = t := by
    apply bytes_ext
    rw [dropB_list, append_list, ← ha, List.drop_left]
  unfold scC
  rw [if_neg (by rw [h1]; simp), Int.toNat_natCast, h2, h3]
def bodyB : List EntD → ByteArray
  | [] => str []
  | e :: l => varB e.i ++ (varB e.d ++ (pieceB e.s ++ bodyB l))
theorem body_fold : ∀ (l : List EntD) (a : ByteArray), l.foldl (fun a e => a ++ varB e.i ++ varB e.d ++ pieceB e.s) a = a ++ bodyB l
  | [], a => by rw [bodyB]; apply bytes_ext; rw [append_list, str_list, List.append_nil]; rfl
  | e :: l, a => by
    rw [List.foldl_cons, body_fold l, bodyB]
    simp only [ByteArray.append_assoc]
theorem stE_body {e : EntD} (h : entOkB e = true) (hs : e.s.size ≤ 24) (t : ByteArray) : stE (varB e.i ++ (varB e.d ++ (pieceB e.s ++ t))) false = (e, t, false) := by
  unfold entOkB at h
  simp only [Bool.and_eq_true, beq_iff_eq] at h
  obtain ⟨_, hh, hi, hd⟩ := h
  obtain ⟨hi0, hi1⟩ := inI_true.1 hi
  obtain ⟨hd0, hd1⟩ := inI_true.1 hd
  have h1 := scN_var hi0 (show e.i ≤ 562949953421311 by omega) (varB e.d ++ (pieceB e.s ++ t))
  have h2 := scN_var (show 0 ≤ e.d by omega) (show e.d ≤ 562949953421311 by omega) (pieceB e.s ++ t)
  have h3 : scP (pieceB e.s ++ t) false = (e.s, t, false) := by
    have h4 := scN_var (show (0 : Int) ≤ (e.s.size : Int) by omega) (show (e.s.size : Int) ≤ 562949953421311 by omega) (e.s ++ t)
    unfold scP pieceB
    rw [ByteArray.append_assoc, h4]
    exact scC_app e.s t
  rw [stE_is h1 h2 h3, hh]
theorem itE_body {ds : List EntD} (h : ∀ e ∈ ds, entOkB e = true ∧ e.s.size ≤ 24) : ∀ k, k ≤ ds.length → itE (bodyB ds) false k = (ds.take k, bodyB (ds.drop k), false)
  | 0, _ => by rw [itE, List.take_zero, List.drop_zero]
  | k + 1, hk => by
    have ih := itE_body h k (by omega)
    have hd : ds.drop k = ds[k] :: ds.drop (k + 1) := List.drop_eq_getElem_cons (by omega)
    have he := h _ (List.getElem_mem (show k < ds.length by omega))
    rw [hd, bodyB] at ih
    rw [itE_succ ih (stE_body he.1 he.2 _), List.take_succ_eq_append_getElem (by omega)]
/-- A right directory is read from its text. -/
theorem homeP_show {q : Int} {ds : List EntD} (hq : inI q 0 1000000 = true) (hd : dirOkB ds = true) : homeP (showHomeB q ds) = ((q, ds), true) := by
  obtain ⟨hq0, hq1⟩ := inI_true.1 hq
  have hp := dirOkB_iff.1 hd
  have hes : ∀ e ∈ ds, entOkB e = true ∧ e.s.size ≤ 24 := by
    intro e he
    refine ⟨?_, s_short hd e he⟩
    obtain ⟨i, hi, rfl⟩ := List.getElem_of_mem he
    exact (hp.2 i hi).1
  have hs : showHomeB q ds = (fix4 (crcB (homeF q ds ds)) ++ str [104]) ++ (varB q ++ (varB (ds.length : Int) ++ bodyB ds)) := by
    unfold showHomeB sumB
    rw [if_pos (by rw [hq, hd]; rfl)]
    conv => lhs; rw [show homeF q ds ds = str [104] ++ varB q ++ varB (ds.length : Int) ++ bodyB ds from body_fold ds _]
    rw [show homeF q ds ds = str [104] ++ varB q ++ varB (ds.length : Int) ++ bodyB ds from body_fold ds _]
    simp only [ByteArray.append_assoc]
  have h5 : (fix4 (crcB (homeF q ds ds)) ++ str [104]).size = 5 := by rw [ByteArray.size_append, fix4_size]; rfl
  have h0 : hd0 (showHomeB q ds) = (fix4 (crcB (homeF q ds ds)) ++ str [104], varB q ++ (varB (ds.length : Int) ++ bodyB ds), false) := by
    unfold hd0
    rw [hs]
    have h := scC_app (fix4 (crcB (homeF q ds ds)) ++ str [104]) (varB q ++ (varB (ds.length : Int) ++ bodyB ds))
    rw [h5] at h
    exact h
  have h1 : hd1 (showHomeB q ds) = (q, varB (ds.length : Int) ++ bodyB ds, false) := by unfold hd1; rw [h0]; exact scN_var hq0 (by omega) _
  have hl : ds.length ≤ 12 := hp.1
  have h2 : hd2 (showHomeB q ds) = ((ds.length : Int), bodyB ds, false) := by
    have hv := scN_var (show (0 : Int) ≤ (ds.length : Int) by omega) (show (ds.length : Int) ≤ 562949953421311 by omega) (bodyB ds)
    unfold hd2
    rw [h1]
    unfold scM
    rw [hv]
    simp
    omega
  have h3 : hd3 (showHomeB q ds) = (ds, bodyB [], false) := by
    unfold hd3
    rw [h2]
    simp only [Int.toNat_natCast]
    rw [itE_body hes _ (Nat.le_refl _), List.take_length, List.drop_length]
  have hz : (showHomeB q ds).size ≠ 0 := by rw [hs, ByteArray.size_append, h5]; omega
  rw [homeP_yes (by rw [h3]) hz (by rw [h1, h3]), h1, h3]
theorem showHome_none {q : Int} {ds : List EntD} (h : (inI q 0 1000000 && dirOkB ds) = false) : showHomeB q ds = str [] := by unfold showHomeB; rw [if_neg (by rw [h]; simp)]
theorem homeP_empty : (homeP (str [])).2 = false := by rw [homeP_no (.inr (.inl rfl))]
/-- What is read is shown as it was. -/
theorem homeP_back {s : ByteArray} {q : Int} {ds : List EntD} (h : homeP s = ((q, ds), true)) : showHomeB q ds = s := by
  by_cases hc : (hd3 s).2.2 = true ∨ s.size = 0 ∨ showHomeB (hd1 s).1 (hd3 s).1 ≠ s
  · rw [homeP_no hc] at h; cases h
  · have h3 : showHomeB (hd1 s).1 (hd3 s).1 = s := by
      by_cases h3 : showHomeB (hd1 s).1 (hd3 s).1 = s
      · exact h3
      · exact absurd (.inr (.inr h3)) hc
    have h1 : (hd3 s).2.2 = false := by
      cases hb : (hd3 s).2.2
      · rfl
      · exact absurd (.inl hb) hc
    have h2 : s.size ≠ 0 := fun h => hc (.inr (.inl h))
    rw [homeP_yes h1 h2 h3] at h
    injection h with h4 _
    injection h4 with h4 h5
    rw [← h4, ← h5]; exact h3

end Go.Proofs.YtpnmmigoencbdaaDoor
