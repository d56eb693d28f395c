/- What is put into a ring is read from it; a text that is spoiled holds no greatest number. Plain Lean. -/
import Derived.Test.YtgbgfgkgkbnflaaRgPut
import Derived.Test.YtgbgfgkgkbnflaaRgDraw
import Derived.Test.YtgbgfgkgkbnflaaRgC
namespace Go.Proofs.Ytgbgfgkgkbnflaa
open Go Go.RowKit

theorem valL_varL : ∀ (k n : Nat), n < 128 ^ (k + 1) → valL (varL n) = n
  | 0, n, h => by
    have hn : n < 128 := by simpa using h
    rw [varL_lt hn, valL, valL, toNat_ofNat n (by omega)]
    omega
  | k + 1, n, h => by
    by_cases hn : n < 128
    · rw [varL_lt hn, valL, valL, toNat_ofNat n (by omega)]; omega
    · rw [varL_ge (by omega), valL, valL_varL k (n / 128) (by rw [Nat.pow_succ] at h; omega), toNat_ofNat _ (by omega)]
      omega
theorem rv_var (n : Nat) (h : n ≤ 562949953421311) (l : List UInt8) : rv (varL n ++ l) = (n, (varL n).length) := by
  have hp7 : (128 : Nat) ^ (6 + 1) = 562949953421312 := by decide
  have h7 : (varL n).length ≤ 7 := varL_len 6 n (by rw [hp7]; omega)
  have h1 := varL_pos n
  have hv := valL_varL 6 n (by rw [hp7]; omega)
  have ht : (varL n ++ l).take ((varL n).length - 1 + 1) = varL n := by
    rw [show (varL n).length - 1 + 1 = (varL n).length by omega, List.take_left]
  have hh := rv_hit (l := varL n ++ l) (k := (varL n).length - 1) (by omega) (by rw [List.length_append]; omega) (by rw [ht, hv])
  rw [ht, hv, show (varL n).length - 1 + 1 = (varL n).length by omega] at hh
  exact hh
theorem varB_list {n : Int} (h0 : 0 ≤ n) (h : n ≤ 562949953421311) : (varB n).data.toList = varL n.toNat := by
  unfold varB
  rw [if_pos (inI_true.2 ⟨h0, by unfold maxVar; omega⟩)]
  rfl
/-- A number that stands ahead of a text is read off. -/

theorem show_list {q : Int} {t : ByteArray} (h : okR q t = true) : (showRecB q t).data.toList = be4 (crcB (recB q t)).toNat ++ (114 :: (varL q.toNat ++ t.data.toList)) := by
  have hk := h
  unfold okR at hk
  rw [Bool.and_eq_true] at hk
  obtain ⟨q0, q1⟩ := inI_true.1 hk.1
  rw [show_yes h, sumB, append_list, fix4, str_list]
  congr 1
  rw [recB, append_list, append_list, str_list, varB_list (by omega) (by omega)]
  rfl
theorem okR_bd {q : Int} {t : ByteArray} (h : okR q t = true) : 1 ≤ q ∧ q ≤ 1000000 ∧ t.size ≤ 80 := by
  unfold okR at h
  rw [Bool.and_eq_true] at h
  obtain ⟨q0, q1⟩ := inI_true.1 h.1
  exact ⟨q0, q1, of_decide_eq_true h.2⟩
/-- A record is read from its text. -/
theorem recP_show {q : Int} {t : ByteArray} (h : okR q t = true) : recP (showRecB q t) = (q, t, true) := by
  obtain ⟨q0, q1, ht⟩ := okR_bd h
  have hl := show_list h
  have hd : (showRecB q t).data.toList.drop 5 = varL q.toNat ++ t.data.toList := by rw [hl]; rfl
  have hrv := rv_var q.toNat (by omega) t.data.toList
  have hp := varL_pos q.toNat
  have hlen : (showRecB q t).data.toList.length = 5 + ((varL q.toNat).length + t.data.toList.length) := by
    rw [hl, List.length_append, List.length_cons, List.length_append]
    show 4 + _ = _
    omega
  have hv : varsAt (showRecB q t).data.toList 1 5 = some ([q.toNat], 5 + ((varL q.toNat).length : Int)) := by
    rw [varsAt_succ, if_neg (by omega), show ((5 : Int)).toNat = 5 from rfl, hd, hrv, if_neg (by simp only; omega)]
    rfl
  have hdb : dropB (showRecB q t) (5 + ((varL q.toNat).length : Int)).toNat = t := by
    apply bytes_ext
    rw [dropB_list, show (5 + ((varL q.toNat).length : Int)).toNat = 5 + (varL q.toNat).length by omega, ← List.drop_drop, hd, List.drop_left]
  have hq : ((q.toNat : Nat) : Int) = q := by omega
  have ho : recOf (showRecB q t) = some (q, t) := by
    unfold recOf
    rw [hv]
    simp only
    rw [hdb, hq, if_pos rfl]
  unfold recP
  rw [ho]
/-- What is read is the text of what is read. -/
theorem rec_inv {s : ByteArray} {q : Int} {t : ByteArray} (h : recP s = (q, t, true)) : okR q t = true ∧ s = showRecB q t := by
  unfold recP at h
  rcases ho : recOf s with _ | ⟨q', t'⟩
  · rw [ho] at h
    simp at h
  · rw [ho] at h
    simp only [Prod.mk.injEq, and_true] at h
    obtain ⟨rfl, rfl⟩ := h
    unfold recOf at ho
    split at ho
    · rename_i q0 p hv
      split at ho
      · rename_i hs
        simp only [Option.some.injEq, Prod.mk.injEq] at ho
        obtain ⟨rfl, rfl⟩ := ho
        refine ⟨?_, hs.symm⟩
        cases hk : okR (q0 : Int) (dropB s p.toNat) with
        | true => rfl
        | false =>
          rw [show_no hk] at hs
          have hb := varsAt_bd _ _ _ _ _ hv
          have h4 := hb.2.2.2 (by omega)
          rw [← hs] at h4
          have h3 := hb.2.2.1
          simp at h4
          omega
      · cases ho
    · cases ho
theorem recP_nil : recP ⟨#[]⟩ = (0, str [], false) := by rfl

theorem spoil_list {d0 d1 d2 d3 a c0 c1 c2 c3 : UInt8} {U Z : List UInt8} (h1 : a ≠ 114) (h2 : a ≠ 192) (h3 : a ≠ 132) (hU : U.length ≤ 3) (k : Nat)
    (h : (c0 :: c1 :: c2 :: c3 :: 114 :: 192 :: 132 :: 61 :: Z = (d0 :: d1 :: d2 :: d3 :: 114 :: a :: U).take k ++ (d0 :: d1 :: d2 :: d3 :: 114 :: a :: U).drop (k + 1)) ∨ (∃ b, c0 :: c1 :: c2 :: c3 :: 114 :: 192 :: 132 :: 61 :: Z = (d0 :: d1 :: d2 :: d3 :: 114 :: a :: U).take k ++ [b] ++ (d0 :: d1 :: d2 :: d3 :: 114 :: a :: U).drop k) ∨
      (c0 :: c1 :: c2 :: c3 :: 114 :: 192 :: 132 :: 61 :: Z = (d0 :: d1 :: d2 :: d3 :: 114 :: a :: U).take k) ∨ ∃ b, c0 :: c1 :: c2 :: c3 :: 114 :: 192 :: 132 :: 61 :: Z = (d0 :: d1 :: d2 :: d3 :: 114 :: a :: U).take k ++ [b] ++ (d0 :: d1 :: d2 :: d3 :: 114 :: a :: U).drop (k + 1)) :
    [c0, c1, c2, c3] = [d0, d1, d2, d3] ∧ ((U = [192, 132, 61] ∧ Z = []) ∨ U = 132 :: 61 :: Z) := by
  have h1' : (114 : UInt8) ≠ a := fun e => h1 e.symm
  have h2' : (192 : UInt8) ≠ a := fun e => h2 e.symm
  have h3' : (132 : UInt8) ≠ a := fun e => h3 e.symm
  rcases k with _ | _ | _ | _ | _ | _ | k
  all_goals
    rcases h with h | ⟨b, h⟩ | h | ⟨b, h⟩
  all_goals
    simp only [List.take_succ_cons, List.take_zero, List.drop_succ_cons, List.drop_zero, List.cons_append, List.nil_append, List.cons.injEq] at h
  all_goals
    first
      | exact absurd h.2.2.2.2.1 h1'
      | exact absurd h.2.2.2.2.2.1 h2'
      | exact absurd h.2.2.2.2.2.2.1 h3'
      | skip
  all_goals
    first
      | (simp at h; done)
      | (obtain ⟨rfl, rfl, rfl, rfl, _, rfl⟩ := h
         cases Z with
         | nil => exact ⟨rfl, .inl ⟨rfl, rfl⟩⟩
         | cons z Z => (simp at hU; done))
      | (obtain ⟨rfl, rfl, rfl, rfl, _, _, rfl⟩ := h
         exact ⟨rfl, .inr rfl⟩)

/-- A text that may stand in a drawn ring. -/
def goodT (s : ByteArray) : Prop := s = ⟨#[]⟩ ∨ ∃ (q : Nat) (u : ByteArray), 1 ≤ q ∧ q ≤ 18 ∧ u.size ≤ 3 ∧ s = showRecB (q : Int) u
/-- It is short, and holds no greatest number. -/
def ringT (s : ByteArray) : Prop := s.size ≤ 100 ∧ ((recP s).2.2 = true → (recP s).1 < 1000000)
theorem ringT_nil : ringT ⟨#[]⟩ := ⟨by decide, by rw [recP_nil]; intro h; cases h⟩
theorem ok_small {q : Nat} {u : ByteArray} (h1 : 1 ≤ q) (h2 : q ≤ 18) (h3 : u.size ≤ 3) : okR (q : Int) u = true := by
  unfold okR
  rw [Bool.and_eq_true]
  exact ⟨inI_true.2 ⟨by omega, by omega⟩, by simp; omega⟩
theorem show_sz (q : Int) (u : ByteArray) : (showRecB q u).size ≤ 12 + u.size := by
  cases h : okR q u with
  | true => rw [show_yes h, sumB_size]; have := recB_size q u; omega
  | false => rw [show_no h]; exact Nat.zero_le _
theorem good_ring {s : ByteArray} (h : goodT s) : ringT s := by
  rcases h with rfl | ⟨q, u, h1, h2, h3, rfl⟩
  · exact ringT_nil
  · refine ⟨by have := show_sz q u; omega, fun _ => ?_⟩
    rw [recP_show (ok_small h1 h2 h3)]
    show (q : Int) < 1000000
    omega
theorem spoilt_sz {s t : ByteArray} (h : Spoilt s t) : t.size ≤ s.size + 3 := by
  rcases h with ⟨_, h⟩ | ⟨k, hk, h⟩
  · omega
  · have e1 : (s.extract 0 k).size = k := by rw [ByteArray.size_extract]; omega
    have e2 : (s.extract (k + 1) s.size).size = s.size - (k + 1) := by rw [ByteArray.size_extract]; omega
    have e3 : (s.extract k s.size).size = s.size - k := by rw [ByteArray.size_extract]; omega
    rcases h with rfl | ⟨x, hx, rfl⟩ | rfl | ⟨x, hx, rfl⟩ <;> simp only [ByteArray.size_append, e1, e2, e3] <;> omega
theorem varL_top : varL (1000000 : Int).toNat = [192, 132, 61] := by
  rw [show (1000000 : Int).toNat = 1000000 from rfl, varL_ge (by omega), varL_ge (by omega), varL_lt (by omega)]
  rfl
theorem one_list {x : ByteArray} (h : x.size = 1) : ∃ b, x.data.toList = [b] := by
  match hl : x.data.toList with
  | [b] => exact ⟨b, rfl⟩
  | [] => have := congrArg List.length hl; rw [size_list, h] at this; simp at this
  | a :: b :: l => have := congrArg List.length hl; rw [size_list, h] at this; simp at this
theorem str_list' (s : ByteArray) : str s.data.toList = s := by rw [str_of]
/-- A spoiled text holds no greatest number. -/
theorem spoilt_ring {s t : ByteArray} (hg : goodT s) (h : Spoilt s t) : ringT t := by
  have hz := spoilt_sz h
  have hs := (good_ring hg).1
  refine ⟨?_, fun ht => ?_⟩
  · rcases hg with rfl | ⟨q, u, h1, h2, h3, rfl⟩
    · have : (⟨#[]⟩ : ByteArray).size = 0 := rfl
      omega
    · have := show_sz q u; omega
  · obtain ⟨Q, z, b, hp⟩ : ∃ Q z b, recP t = (Q, z, b) := ⟨_, _, _, rfl⟩
    rw [hp] at ht ⊢
    simp only at ht ⊢
    subst ht
    obtain ⟨hok, htt⟩ := rec_inv hp
    obtain ⟨Q0, Q1, hzz⟩ := okR_bd hok
    by_cases hQ : Q = 1000000
    · exfalso
      subst hQ
      have hT := show_list hok
      rw [← htt, varL_top] at hT
      rcases hg with rfl | ⟨q, u, h1, h2, h3, rfl⟩
      · have h0 : (⟨#[]⟩ : ByteArray).size = 0 := rfl
        have := congrArg List.length hT
        rw [size_list] at this
        simp [be4] at this
        omega
      · have hS := show_list (ok_small h1 h2 h3)
        rw [show ((q : Int)).toNat = q by omega, varL_lt (by omega)] at hS
        have hU : u.data.toList.length ≤ 3 := by rw [size_list]; exact h3
        generalize hcd : be4 (crcB (recB 1000000 z)).toNat = C at hT
        generalize hdd : be4 (crcB (recB (q : Int) u)).toNat = D at hS
        obtain ⟨c0, c1, c2, c3, rfl⟩ : ∃ c0 c1 c2 c3, C = [c0, c1, c2, c3] := ⟨_, _, _, _, hcd.symm⟩
        obtain ⟨d0, d1, d2, d3, rfl⟩ : ∃ d0 d1 d2 d3, D = [d0, d1, d2, d3] := ⟨_, _, _, _, hdd.symm⟩
        simp only [List.cons_append, List.nil_append] at hT hS
        have n1 : UInt8.ofNat q ≠ 114 := by intro e; have := congrArg UInt8.toNat e; rw [toNat_ofNat q (by omega)] at this; simp at this; omega
        have n2 : UInt8.ofNat q ≠ 192 := by intro e; have := congrArg UInt8.toNat e; rw [toNat_ofNat q (by omega)] at this; simp at this; omega
        have n3 : UInt8.ofNat q ≠ 132 := by intro e; have := congrArg UInt8.toNat e; rw [toNat_ofNat q (by omega)] at this; simp at this; omega
        rcases h with ⟨h0, _⟩ | ⟨k, hk, h⟩
        · have := congrArg List.length hS
          rw [size_list, h0] at this
          simp at this
        · have key := spoil_list n1 n2 n3 hU k (c0 := c0) (c1 := c1) (c2 := c2) (c3 := c3) (d0 := d0) (d1 := d1) (d2 := d2) (d3 := d3) (Z := z.data.toList) (by
            rw [← hT, ← hS]
            have t1 : ((showRecB (q : Int) u).extract 0 k).data.toList = (showRecB (q : Int) u).data.toList.take k := by rw [sub_list, List.drop_zero]
            have t2 : ((showRecB (q : Int) u).extract (k + 1) (showRecB (q : Int) u).size).data.toList = (showRecB (q : Int) u).data.toList.drop (k + 1) := by rw [sub_list, ← size_list, List.take_length]
            have t3 : ((showRecB (q : Int) u).extract k (showRecB (q : Int) u).size).data.toList = (showRecB (q : Int) u).data.toList.drop k := by rw [sub_list, ← size_list, List.take_length]
            rcases h with h | ⟨x, hx, h⟩ | h | ⟨x, hx, h⟩
            · exact .inl (by rw [h, append_list, t1, t2])
            · obtain ⟨b, hb⟩ := one_list hx
              exact .inr (.inl ⟨b, by rw [h, append_list, append_list, t1, t3, hb]⟩)
            · exact .inr (.inr (.inl (by rw [h, t1])))
            · obtain ⟨b, hb⟩ := one_list hx
              exact .inr (.inr (.inr ⟨b, by rw [h, append_list, append_list, t1, t2, hb]⟩)))
          obtain ⟨hcd', hc⟩ := key
          have r1 : recB 1000000 z = str (114 :: 192 :: 132 :: 61 :: z.data.toList) := by
            apply bytes_ext
            rw [recB, append_list, append_list, str_list, str_list, varB_list (by omega) (by omega), varL_top]
            rfl
          have r2 : recB (q : Int) u = str (114 :: UInt8.ofNat q :: u.data.toList) := by
            apply bytes_ext
            rw [recB, append_list, append_list, str_list, str_list, varB_list (by omega) (by omega), show ((q : Int)).toNat = q by omega, varL_lt (by omega)]
            rfl
          rw [r1] at hcd
          rw [r2] at hdd
          have he : crcs (114 :: 192 :: 132 :: 61 :: z.data.toList) = crcs (114 :: UInt8.ofNat q :: u.data.toList) := by
            unfold crcs
            rw [hcd, hdd]; exact hcd'
          rcases hc with ⟨hu, hzn⟩ | hu
          · rw [hu, hzn] at he
            have := List.all_eq_true.1 sums1 q (List.mem_range.2 (by omega))
            rw [bne_iff_ne] at this
            exact this he
          · rw [hu] at he hU
            match hzl : z.data.toList with
            | [] =>
              rw [hzl] at he
              have := List.all_eq_true.1 sums2 q (List.mem_range.2 (by omega))
              rw [bne_iff_ne] at this
              exact this he
            | [x] =>
              rw [hzl] at he
              have := List.all_eq_true.1 (List.all_eq_true.1 sums3 q (List.mem_range.2 (by omega))) x.toNat (List.mem_range.2 x.toNat_lt)
              rw [bne_iff_ne, UInt8.ofNat_toNat] at this
              exact this he
            | x :: y :: l => rw [hzl] at hU; simp at hU
    · omega

end Go.Proofs.Ytgbgfgkgkbnflaa
