/- A record is read from its text; what is read is the text of what is read. Plain Lean. -/
import Derived.Test.YtghgafbfpejinaaGreatDoorRFallS
import Derived.Test.YtghgafbfpejinaaGreatDoorRDoP
import Derived.Test.YtghgafbfpejinaaGreatDoorROp3
import Derived.Test.YtghgafbfpejinaaGreatDoorRRHome
import Derived.Test.YtghgafbfpejinaaGreatDoorRRing
namespace Go.Proofs.YtghgafbfpejinaaGreatDoor
open Go Go.RowKit

theorem fallS_len {L : List ByteArray} {ds ds' : List EntD} {q : Int} (h : fallS L ds q = some ds') : ds'.length ≤ ds.length + 1 := by
 unfold fallS at h
 split at h
 ·injection h with h; rw [← h]; exact doP_len (b := (doP ds (opP (txtAt L (q + 1))).1.1 (opP (txtAt L (q + 1))).1.2.1 (opP (txtAt L (q + 1))).1.2.2).2) rfl
 ·cases h
theorem fallN_len (L : List ByteArray) : ∀ (n : Nat) (ds : List EntD) (q : Int) (rg : List ByteArray), (fallN L n ds q rg).1.length ≤ ds.length + n ∧ (fallN L n ds q rg).2.2.length = rg.length
 | 0, ds, q, rg => ⟨Nat.le_refl _, rfl⟩
 | n + 1, ds, q, rg => by
  cases h : fallS L ds q with
  | none => rw [fallN_stop h]; exact ⟨by show ds.length ≤ _; omega, rfl⟩
  | some ds' =>
   rw [fallN_go h]
   have h1 := fallS_len h
   have h2 := fallN_len L n ds' (q + 1) (rg.set ((q + 1) % 6).toNat (at6 L (q + 1)))
   rw [List.length_set] at h2
   exact ⟨by omega, h2.2⟩
theorem fall_impl (v : Value) (B : BookD) (sm : szBk B ≤ 1048576) (mk : Int) (hmk : mk ≤ 9223372036854775807) {B' : BookD} {b : Bool} (h : fallP B mk = (B', b)) (w : World) (hT : Tab w) (hI : IsBook w v B) :
  Calls Tryz.prog 12 #[v, .int .i64 mk] w fun e w' => ∃ v' lo up, e = .returned (.tuple #[v', .bool b]) ∧ w.heap.size ≤ lo ∧ InAt (OwnBk lo v' B') lo up w' ∧ Below w.heap.size w w' := by
 refine (fall_impl0 v B sm mk hmk w hT hI).mono ?_
 rintro e w' ⟨⟨B2, b2, v', hP, rfl, hO⟩, hb⟩
 rw [h] at hP
 injection hP with h1 h2
 subst h1 h2
 exact ⟨v', w.heap.size, _, rfl, Nat.le_refl _, own_bk_in hO, hb⟩
theorem fall_spec (v : Value) (B : BookD) (sm : szBk B ≤ 1048576) (mk : Int) (hmk : mk ≤ 9223372036854775807) {B' : BookD} {b : Bool} (h : fallP B mk = (B', b)) (w : World) (hI : IsBook w v B) :
  Calls Tryz.prog 21 #[v, .int .i64 mk] w fun e w' => ∃ v' lo up, e = .returned (.tuple #[v', .bool b]) ∧ w.heap.size ≤ lo ∧ InAt (OwnBk lo v' B') lo up w' ∧ Below w.heap.size w w' := by
 refine (fall_spec0 v B sm mk hmk w hI).mono ?_
 rintro e w' ⟨⟨B2, b2, v', hP, rfl, hO⟩, hb⟩
 rw [h] at hP
 injection hP with h1 h2
 subst h1 h2
 exact ⟨v', w.heap.size, _, rfl, Nat.le_refl _, own_bk_in hO, hb⟩

theorem dirOk_pw {ds : List EntD} : dirOkB ds = true ↔ ds.length ≤ 12 ∧ (∀ e ∈ ds, entOkB e = true) ∧ ds.Pairwise fun a b => behB b a.h a.i = true ∧ keyB a.s ≠ keyB b.s := by
 constructor
 ·intro h
  have hp := dirOkB_iff.1 h
  refine ⟨hp.1, fun e he => ?_, ?_⟩
  ·obtain ⟨i, hi, rfl⟩ := List.getElem_of_mem he
   exact (hp.2 i hi).1
  ·rw [List.pairwise_iff_getElem]
   intro i j hi hj hij
   exact ⟨dir_less h hij hj, (hp.2 j hj).2.2 i hij⟩
 ·rintro ⟨h1, h2, h3⟩
  rw [List.pairwise_iff_getElem] at h3
  refine dirOkB_iff.2 ⟨h1, fun i hi => ⟨h2 _ (List.getElem_mem hi), fun h0 => (h3 (i - 1) i (by omega) hi (by omega)).1, fun k hk => (h3 k i (by omega) hi hk).2⟩⟩
theorem dirOk_sub {ds es : List EntD} (h : dirOkB ds = true) (hs : es.Sublist ds) : dirOkB es = true := by
 obtain ⟨h1, h2, h3⟩ := dirOk_pw.1 h
 exact dirOk_pw.2 ⟨Nat.le_trans hs.length_le h1, fun e he => h2 e (hs.subset he), h3.sublist hs⟩
theorem cut_sub {α : Type} (l : List α) (k : Nat) : (l.take k ++ l.drop (k + 1)).Sublist l := by
 conv => rhs; rw [← List.take_append_drop k l]
 refine List.Sublist.append (List.Sublist.refl _) ?_
 rw [← List.drop_drop]
 exact List.drop_sublist 1 _
theorem beh_or {b : EntD} {h i : Int} (h1 : ¬ behB ⟨h, i, ⟨#[]⟩, 0⟩ b.h b.i = true) (h2 : ¬ (b.h = h ∧ b.i = i)) : behB b h i = true := by
 unfold behB at *
 simp only [Bool.or_eq_true, Bool.and_eq_true, decide_eq_true_eq] at *
 omega
theorem dw_all {p : EntD → Bool} : ∀ {l : List EntD} {b : EntD}, b ∈ l.dropWhile p → ∃ b0, b0 ∈ l ∧ p b0 = false ∧ (b = b0 ∨ [b0, b].Sublist l)
 | [], b, h => by simp at h
 | x :: l, b, h => by
  rw [List.dropWhile_cons] at h
  split at h
  ·obtain ⟨b0, h1, h2, h3⟩ := dw_all h
   refine ⟨b0, by simp [h1], h2, ?_⟩
   rcases h3 with h3 | h3
   ·exact .inl h3
   ·exact .inr (h3.trans (List.sublist_cons_self _ _))
  ·rename_i hx
   refine ⟨x, by simp, by simpa using hx, ?_⟩
   rcases List.mem_cons.1 h with h | h
   ·exact .inl h
   ·exact .inr (List.cons_sublist_cons.2 (List.singleton_sublist.2 h))
theorem tw_all {p : EntD → Bool} : ∀ {l : List EntD} {a : EntD}, a ∈ l.takeWhile p → p a = true
 | [], a, h => by simp at h
 | x :: l, a, h => by
  rw [List.takeWhile_cons] at h
  split at h
  ·rename_i hx
   rcases List.mem_cons.1 h with rfl | h
   ·exact hx
   ·exact tw_all h
  ·cases h
theorem addP_ok {ds : List EntD} (hd : dirOkB ds = true) (s : ByteArray) (id : Int) : dirOkB (addP ds s id).1 = true := by
 by_cases hc : nameOkB s = true ∧ ds.find? (isN s) = none ∧ inI id 1 100000 = true ∧ ds.length ≠ 12
 ·rw [addP_yes hd hc]
  obtain ⟨hn, hf, hi, h12⟩ := hc
  obtain ⟨h1, h2, h3⟩ := dirOk_pw.1 hd
  have hix := ixL_bd hd (hashI s)
  have hno : ∀ x ∈ ds, ¬ (x.h = hashI s ∧ x.i = ixL (hashI s) ds) := by
   have h := ixL_any hd (hashI s) (ixL (hashI s) ds) hix.1 (Int.le_refl _)
   rw [decide_eq_false (by omega), List.any_eq_false] at h
   intro x hx hh
   exact h x hx (by simp [isPl, hh.1, hh.2])
  have hkey : ∀ x ∈ ds, keyB x.s ≠ keyB s := by
   intro x hx he
   have h := List.find?_eq_none.1 hf x hx
   apply h
   have hxn := h2 x hx
   unfold entOkB at hxn
   simp only [Bool.and_eq_true] at hxn
   unfold isN alikeB
   simp [hxn.1, hn, he]
  have hbeh : ∀ b ∈ ds.dropWhile (fun x => behB (newE ds s id) x.h x.i), behB b (hashI s) (ixL (hashI s) ds) = true := by
   intro b hb
   obtain ⟨b0, hb0, hp, hor⟩ := dw_all hb
   have h0 : behB b0 (hashI s) (ixL (hashI s) ds) = true := beh_or (by have hq : behB ⟨hashI s, ixL (hashI s) ds, ⟨#[]⟩, 0⟩ b0.h b0.i = false := hp; rw [hq]; simp) (hno b0 hb0)
   rcases hor with rfl | hsub
   ·exact h0
   ·have h4 := (List.pairwise_cons.1 (h3.sublist hsub)).1 b (by simp)
    exact beh_trans (a := newE ds s id) h4.1 h0
  refine dirOk_pw.2 ⟨by show (insL _ _).length ≤ 12; rw [insL_len]; omega, fun e he => ?_, ?_⟩
  ·rcases insL_mem he with rfl | he
   ·unfold entOkB newE
    simp only [hn, hi, Bool.and_eq_true, beq_self_eq_true, true_and, and_true]
    exact inI_true.2 ⟨hix.1, by omega⟩
   ·exact h2 e he
  ·show (insL _ _).Pairwise _
   unfold insL
   rw [List.pairwise_append]
   refine ⟨h3.sublist (List.takeWhile_sublist _), ?_, ?_⟩
   ·rw [List.pairwise_cons]
    refine ⟨fun b hb => ⟨hbeh b hb, fun e => hkey b ((List.dropWhile_sublist _).subset hb) e.symm⟩, h3.sublist (List.dropWhile_sublist _)⟩
   ·intro a ha b hb
    have hae : behB (newE ds s id) a.h a.i = true := tw_all ha
    have ham := (List.takeWhile_sublist _).subset ha
    rcases List.mem_cons.1 hb with rfl | hb
    ·exact ⟨hae, hkey a ham⟩
    ·have hp := h3
     rw [← List.takeWhile_append_dropWhile (p := fun x : EntD => behB (newE ds s id) x.h x.i) (l := ds), List.pairwise_append] at hp
     exact hp.2.2 a ha b hb
 ·rw [addP_no hd hc]; exact hd
theorem dropP_ok {ds : List EntD} (hd : dirOkB ds = true) (s : ByteArray) : dirOkB (dropP ds s).1 = true := by
 unfold dropP
 rw [if_pos hd]
 split
 ·exact hd
 ·exact dirOk_sub hd (cut_sub _ _)

theorem valL_varL : ∀ (k n : Nat), n < 128 ^ (k + 1) → valL (varL n) = n
 | 0, n, h => by
  have hn : n < 128 := by simpa using h
  rw [varL_lt hn, valL, valL, toNat_ofNat n (by omega)]
  omega
 | k + 1, n, h => by
  by_cases hn : n < 128
  ·rw [varL_lt hn, valL, valL, toNat_ofNat n (by omega)]; omega
  ·rw [varL_ge (by omega), valL, valL_varL k (n / 128) (by rw [Nat.pow_succ] at h; omega), toNat_ofNat _ (by omega)]
   omega
theorem rv_var (n : Nat) (h : n ≤ 562949953421311) (l : List UInt8) : rv (varL n ++ l) = (n, (varL n).length) := by
 have hp7 : (128 : Nat) ^ (6 + 1) = 562949953421312 := by decide
 have h7 : (varL n).length ≤ 7 := varL_len 6 n (by rw [hp7]; omega)
 have h1 := varL_pos n
 have hv := valL_varL 6 n (by rw [hp7]; omega)
 have ht : (varL n ++ l).take ((varL n).length - 1 + 1) = varL n := by
  rw [show (varL n).length - 1 + 1 = (varL n).length by omega, List.take_left]
 have hh := rv_hit (l := varL n ++ l) (k := (varL n).length - 1) (by omega) (by rw [List.length_append]; omega) (by rw [ht, hv])
 rw [ht, hv, show (varL n).length - 1 + 1 = (varL n).length by omega] at hh
 exact hh
theorem varB_list {n : Int} (h0 : 0 ≤ n) (h : n ≤ 562949953421311) : (varB n).data.toList = varL n.toNat := by
 unfold varB
 rw [if_pos (inI_true.2 ⟨h0, by unfold maxVar; omega⟩)]
 rfl
/-- A number that stands ahead of a text is read off. -/
theorem scN_var {n : Int} (h0 : 0 ≤ n) (h : n ≤ 562949953421311) (t : ByteArray) : scN (varB n ++ t) false = (n, t, false) := by
 have hl : (varB n ++ t).data.toList = varL n.toNat ++ t.data.toList := by rw [append_list, varB_list h0 h]
 have hr : rvB (varB n ++ t) = (n.toNat, (varL n.toNat).length) := by
  unfold rvB
  rw [hl]
  exact rv_var n.toNat (by omega) _
 have hp := varL_pos n.toNat
 have hd : dropB (varB n ++ t) (varL n.toNat).length = t := by
  apply bytes_ext
  rw [dropB_list, hl, List.drop_left]
 rw [scN_go _ (by rw [hr]; simp only; omega), hr]
 simp only [hd]
 congr 1
 omega
theorem opOk_bd {k i : Int} {s : ByteArray} (h : opOkB k s i = true) : 0 ≤ k ∧ k ≤ 3 ∧ 0 ≤ i ∧ i ≤ 100000 := by
 unfold opOkB at h
 split at h
 ·simp at h; omega
 ·simp [inI] at h; omega
/-- A right change is read from its text. -/
theorem opP_show {k i : Int} {s : ByteArray} (h : opOkB k s i = true) : opP (showOpB k s i) = ((k, s, i), true) := by
 obtain ⟨hk0, hk1, hi0, hi1⟩ := opOk_bd h
 have hs : showOpB k s i = varB k ++ (varB i ++ s) := by unfold showOpB; rw [if_pos h, ByteArray.append_assoc]
 have h1 : sc1 (showOpB k s i) = (k, varB i ++ s, false) := by unfold sc1; rw [hs]; exact scN_var hk0 (by omega) _
 have h2 : sc2 (showOpB k s i) = (i, s, false) := by unfold sc2; rw [h1]; exact scN_var hi0 (by omega) _
 apply opP_some
 rw [opOf_yes _ (by rw [h2]), h1, h2]
 exact if_pos ⟨h, rfl⟩
theorem scC_app (a t : ByteArray) : scC (a ++ t) false (a.size : Int) = (a, t, false) := by
 have h1 : inI (a.size : Int) 0 ((a ++ t).size : Int) = true := inI_true.2 ⟨by omega, by rw [ByteArray.size_append]; omega⟩
 have ha : a.data.toList.length = a.size := by rw [Array.length_toList]; rfl
 have h2 : takeB (a ++ t) a.size = a := by
  apply bytes_ext
  rw [takeB_list, append_list, ← ha, List.take_left]
 have h3 : dropB (a ++ t) a.size = t := by
  apply bytes_ext
  rw [dropB_list, append_list, ← ha, List.drop_left]
 unfold scC
 rw [if_neg (by rw [h1]; simp), Int.toNat_natCast, h2, h3]
def bodyB : List EntD → ByteArray
 | [] => str []
 | e :: l => varB e.i ++ (varB e.d ++ (pieceB e.s ++ bodyB l))
theorem body_fold : ∀ (l : List EntD) (a : ByteArray), l.foldl (fun a e => a ++ varB e.i ++ varB e.d ++ pieceB e.s) a = a ++ bodyB l
 | [], a => by rw [bodyB]; apply bytes_ext; rw [append_list, str_list, List.append_nil]; rfl
 | e :: l, a => by
  rw [List.foldl_cons, body_fold l, bodyB]
  simp only [ByteArray.append_assoc]
theorem stE_body {e : EntD} (h : entOkB e = true) (hs : e.s.size ≤ 24) (t : ByteArray) : stE (varB e.i ++ (varB e.d ++ (pieceB e.s ++ t))) false = (e, t, false) := by
 unfold entOkB at h
 simp only [Bool.and_eq_true, beq_iff_eq] at h
 obtain ⟨_, hh, hi, hd⟩ := h
 obtain ⟨hi0, hi1⟩ := inI_true.1 hi
 obtain ⟨hd0, hd1⟩ := inI_true.1 hd
 have h1 := scN_var hi0 (show e.i ≤ 562949953421311 by omega) (varB e.d ++ (pieceB e.s ++ t))
 have h2 := scN_var (show 0 ≤ e.d by omega) (show e.d ≤ 562949953421311 by omega) (pieceB e.s ++ t)
 have h3 : scP (pieceB e.s ++ t) false = (e.s, t, false) := by
  have h4 := scN_var (show (0 : Int) ≤ (e.s.size : Int) by omega) (show (e.s.size : Int) ≤ 562949953421311 by omega) (e.s ++ t)
  unfold scP pieceB
  rw [ByteArray.append_assoc, h4]
  exact scC_app e.s t
 rw [stE_is h1 h2 h3, hh]
theorem itE_body {ds : List EntD} (h : ∀ e ∈ ds, entOkB e = true ∧ e.s.size ≤ 24) : ∀ k, k ≤ ds.length → itE (bodyB ds) false k = (ds.take k, bodyB (ds.drop k), false)
 | 0, _ => by rw [itE, List.take_zero, List.drop_zero]
 | k + 1, hk => by
  have ih := itE_body h k (by omega)
  have hd : ds.drop k = ds[k] :: ds.drop (k + 1) := List.drop_eq_getElem_cons (by omega)
  have he := h _ (List.getElem_mem (show k < ds.length by omega))
  rw [hd, bodyB] at ih
  rw [itE_succ ih (stE_body he.1 he.2 _), List.take_succ_eq_append_getElem (by omega)]
/-- A right directory is read from its text. -/
theorem homeP_show {q : Int} {ds : List EntD} (hq : inI q 0 1000000 = true) (hd : dirOkB ds = true) : homeP (showHomeB q ds) = ((q, ds), true) := by
 obtain ⟨hq0, hq1⟩ := inI_true.1 hq
 have hp := dirOkB_iff.1 hd
 have hes : ∀ e ∈ ds, entOkB e = true ∧ e.s.size ≤ 24 := by
  intro e he
  refine ⟨?_, s_short hd e he⟩
  obtain ⟨i, hi, rfl⟩ := List.getElem_of_mem he
  exact (hp.2 i hi).1
 have hs : showHomeB q ds = (fix4 (crcB (homeF q ds ds)) ++ str [104]) ++ (varB q ++ (varB (ds.length : Int) ++ bodyB ds)) := by
  unfold showHomeB sumB
  rw [if_pos (by rw [hq, hd]; rfl)]
  conv => lhs; rw [show homeF q ds ds = str [104] ++ varB q ++ varB (ds.length : Int) ++ bodyB ds from body_fold ds _]
  rw [show homeF q ds ds = str [104] ++ varB q ++ varB (ds.length : Int) ++ bodyB ds from body_fold ds _]
  simp only [ByteArray.append_assoc]
 have h5 : (fix4 (crcB (homeF q ds ds)) ++ str [104]).size = 5 := by rw [ByteArray.size_append, fix4_size]; rfl
 have h0 : hd0 (showHomeB q ds) = (fix4 (crcB (homeF q ds ds)) ++ str [104], varB q ++ (varB (ds.length : Int) ++ bodyB ds), false) := by
  unfold hd0
  rw [hs]
  have h := scC_app (fix4 (crcB (homeF q ds ds)) ++ str [104]) (varB q ++ (varB (ds.length : Int) ++ bodyB ds))
  rw [h5] at h
  exact h
 have h1 : hd1 (showHomeB q ds) = (q, varB (ds.length : Int) ++ bodyB ds, false) := by unfold hd1; rw [h0]; exact scN_var hq0 (by omega) _
 have hl : ds.length ≤ 12 := hp.1
 have h2 : hd2 (showHomeB q ds) = ((ds.length : Int), bodyB ds, false) := by
  have hv := scN_var (show (0 : Int) ≤ (ds.length : Int) by omega) (show (ds.length : Int) ≤ 562949953421311 by omega) (bodyB ds)
  unfold hd2
  rw [h1]
  unfold scM
  rw [hv]
  simp
  omega
 have h3 : hd3 (showHomeB q ds) = (ds, bodyB [], false) := by
  unfold hd3
  rw [h2]
  simp only [Int.toNat_natCast]
  rw [itE_body hes _ (Nat.le_refl _), List.take_length, List.drop_length]
 have hz : (showHomeB q ds).size ≠ 0 := by rw [hs, ByteArray.size_append, h5]; omega
 rw [homeP_yes (by rw [h3]) hz (by rw [h1, h3]), h1, h3]
theorem homeP_empty : (homeP (str [])).2 = false := by rw [homeP_no (.inr (.inl rfl))]

def okR (q : Int) (t : ByteArray) : Bool := inI q 1 1000000 && decide (t.size ≤ 80)
theorem show_yes {q : Int} {t : ByteArray} (h : okR q t = true) : showRecB q t = sumB (recB q t) := by unfold showRecB; exact if_pos h
theorem show_no {q : Int} {t : ByteArray} (h : okR q t = false) : showRecB q t = ⟨#[]⟩ := by unfold showRecB; rw [if_neg (by rw [show (inI q 1 1000000 && decide (t.size ≤ 80)) = okR q t from rfl, h]; simp)]; rfl
theorem show_list {q : Int} {t : ByteArray} (h : okR q t = true) : (showRecB q t).data.toList = be4 (crcB (recB q t)).toNat ++ (114 :: (varL q.toNat ++ t.data.toList)) := by
 have hk := h
 unfold okR at hk
 rw [Bool.and_eq_true] at hk
 obtain ⟨q0, q1⟩ := inI_true.1 hk.1
 rw [show_yes h, sumB, append_list, fix4, str_list]
 congr 1
 rw [recB, append_list, append_list, str_list, varB_list (by omega) (by omega)]
 rfl
theorem okR_bd {q : Int} {t : ByteArray} (h : okR q t = true) : 1 ≤ q ∧ q ≤ 1000000 ∧ t.size ≤ 80 := by
 unfold okR at h
 rw [Bool.and_eq_true] at h
 obtain ⟨q0, q1⟩ := inI_true.1 h.1
 exact ⟨q0, q1, of_decide_eq_true h.2⟩
/-- A record is read from its text. -/
theorem recP_show {q : Int} {t : ByteArray} (h : okR q t = true) : recP (showRecB q t) = (q, t, true) := by
 obtain ⟨q0, q1, ht⟩ := okR_bd h
 have hl := show_list h
 have hd : (showRecB q t).data.toList.drop 5 = varL q.toNat ++ t.data.toList := by rw [hl]; rfl
 have hrv := rv_var q.toNat (by omega) t.data.toList
 have hp := varL_pos q.toNat
 have hlen : (showRecB q t).data.toList.length = 5 + ((varL q.toNat).length + t.data.toList.length) := by
  rw [hl, List.length_append, List.length_cons, List.length_append]
  show 4 + _ = _
  omega
 have hv : varsAt (showRecB q t).data.toList 1 5 = some ([q.toNat], 5 + ((varL q.toNat).length : Int)) := by
  rw [varsAt_succ, if_neg (by omega), show ((5 : Int)).toNat = 5 from rfl, hd, hrv, if_neg (by simp only; omega)]
  rfl
 have hdb : dropB (showRecB q t) (5 + ((varL q.toNat).length : Int)).toNat = t := by
  apply bytes_ext
  rw [dropB_list, show (5 + ((varL q.toNat).length : Int)).toNat = 5 + (varL q.toNat).length by omega, ← List.drop_drop, hd, List.drop_left]
 have hq : ((q.toNat : Nat) : Int) = q := by omega
 have ho : recOf (showRecB q t) = some (q, t) := by
  unfold recOf
  rw [hv]
  simp only
  rw [hdb, hq, if_pos rfl]
 unfold recP
 rw [ho]
/-- What is read is the text of what is read. -/
theorem rec_inv {s : ByteArray} {q : Int} {t : ByteArray} (h : recP s = (q, t, true)) : okR q t = true ∧ s = showRecB q t := by
 unfold recP at h
 rcases ho : recOf s with _ | ⟨q', t'⟩
 ·rw [ho] at h
  simp at h
 ·rw [ho] at h
  simp only [Prod.mk.injEq, and_true] at h
  obtain ⟨rfl, rfl⟩ := h
  unfold recOf at ho
  split at ho
  ·rename_i q0 p hv
   split at ho
   ·rename_i hs
    simp only [Option.some.injEq, Prod.mk.injEq] at ho
    obtain ⟨rfl, rfl⟩ := ho
    refine ⟨?_, hs.symm⟩
    cases hk : okR (q0 : Int) (dropB s p.toNat) with
    | true => rfl
    | false =>
     rw [show_no hk] at hs
     have hb := varsAt_bd _ _ _ _ _ hv
     have h4 := hb.2.2.2 (by omega)
     rw [← hs] at h4
     have h3 := hb.2.2.1
     simp at h4
     omega
   ·cases ho
  ·cases ho
theorem recP_nil : recP ⟨#[]⟩ = (0, str [], false) := by rfl

end Go.Proofs.YtghgafbfpejinaaGreatDoor
