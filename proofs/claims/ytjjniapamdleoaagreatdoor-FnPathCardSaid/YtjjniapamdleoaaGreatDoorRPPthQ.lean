/- The text of an inode leads to it; what is cleaned of a path is what it was: plain. -/
import Derived.Test.YtjjniapamdleoaaGreatDoorRPText
import Derived.Test.YtjjniapamdleoaaGreatDoorRPLk
import Derived.Test.YtjjniapamdleoaaGreatDoorRPPath
import Derived.Test.YtjjniapamdleoaaGreatDoorRPDirK
namespace Go.Proofs.YtjjniapamdleoaaGreatDoor
open Go Go.RowKit

/-! A right name has no slash. -/
theorem contV_no47 : ∀ (k : Nat) (l : List UInt8) (c d : Nat), contV k l c = some d -> (47 : UInt8) ∉ l.take k
 | 0, _, _, _, _ => by simp
 | _ + 1, [], _, _, _ => by simp
 | k + 1, b :: l, c, d, h => by
  rw [contV] at h
  split at h
  ·rename_i hb
   have ih := contV_no47 k l _ d h
   rw [List.take_succ_cons, List.mem_cons]
   rintro (h1 | h1)
   ·rw [<- h1] at hb
    exact absurd hb.1 (by decide)
   ·exact ih h1
  ·cases h
theorem one_47 {l : List UInt8} (h2 : (one l).2 ≠ 0) (h : (47 : UInt8) ∈ l.take (one l).2) : (one l).1 = 47 := by
 rcases l with _ | ⟨b, r⟩
 ·simp at h
 ·rw [one_cons] at h h2 ⊢
  by_cases h0 : leadN b.toNat = 0
  ·rw [if_pos h0] at h2; exact absurd rfl h2
  ·rw [if_neg h0] at h h2 ⊢
   rcases h3 : contV (leadN b.toNat - 1) r (leadC b.toNat) with _ | d
   ·rw [h3] at h2; exact absurd rfl h2
   ·rw [h3] at h h2
    rw [fin1_some] at h h2 ⊢
    by_cases h4 : leastN (leadN b.toNat) <= d /\ signOk d = true
    ·rw [if_pos h4] at h ⊢
     have h5 := contV_no47 _ _ _ _ h3
     obtain ⟨m, hm⟩ : ∃ m, leadN b.toNat = m + 1 := ⟨leadN b.toNat - 1, by omega⟩
     have h6 : (47 : UInt8) ∈ (b :: r).take (m + 1) := by rw [<- hm]; exact h
     rw [hm, Nat.add_sub_cancel] at h3 h5
     rw [List.take_succ_cons, List.mem_cons] at h6
     rcases h6 with h6 | h6
     ·subst h6
      have h7 : leadN (47 : UInt8).toNat = 1 := rfl
      have hm0 : m = 0 := by omega
      subst hm0
      rw [contV] at h3
      have h8 := Option.some.inj h3
      show d = 47
      rw [<- h8]; rfl
     ·exact absurd h6 h5
    ·rw [if_neg h4] at h2; exact absurd rfl h2
theorem dec_47 : ∀ (n : Nat) (l : List UInt8), l.length <= n -> ∀ xs, decL l = some xs -> (47 : UInt8) ∈ l -> 47 ∈ xs
 | 0, l, hl, xs, _, h => by
  rw [List.eq_nil_of_length_eq_zero (by omega : l.length = 0)] at h; cases h
 | n + 1, l, hl, xs, hd, h => by
  have hn : l ≠ [] := by rintro rfl; cases h
  by_cases h2 : (one l).2 = 0
  ·rw [decL, if_neg hn, dif_pos h2] at hd; cases hd
  ·have hle := one_le l
   rw [decL, if_neg hn, dif_neg h2] at hd
   rcases h3 : decL (l.drop (one l).2) with _ | ys
   ·rw [h3] at hd; cases hd
   ·rw [h3] at hd
    simp only [Option.map_some, Option.some.injEq] at hd
    subst hd
    have h5 : (47 : UInt8) ∈ l.take (one l).2 ++ l.drop (one l).2 := by rw [List.take_append_drop]; exact h
    rcases List.mem_append.1 h5 with h | h
    ·rw [one_47 h2 h]; simp
    ·exact List.mem_cons_of_mem _ (dec_47 n _ (by rw [List.length_drop]; omega) ys h3 h)
/-- A part of a path that is a name. -/
def PartP (l : List UInt8) : Prop := l ≠ [] /\ l ≠ [46] /\ l ≠ [46, 46] /\ (47 : UInt8) ∉ l
theorem name_part {s : ByteArray} (h : nameOkB s = true) : PartP s.data.toList := by
 unfold nameOkB at h
 split at h
 ·cases h
 ·rename_i xs hx
  simp only [Bool.and_eq_true, Bool.not_eq_true', beq_eq_false_iff_ne, ne_eq, ByteArray.toList_eq] at h
  obtain ⟨⟨⟨h1, h2⟩, h3⟩, h4⟩ := h
  refine ⟨?_, h2, h3, ?_⟩
  ·intro h5
   have h6 := (inI_true.1 h1).1
   have h7 := size_list s
   rw [h5] at h7
   simp at h7
   omega
  ·intro hm
   have h5 := List.all_eq_true.1 h4 47 (dec_47 _ _ (Nat.le_refl _) xs hx hm)
   have h6 : kn ((47 : Nat) : Int) = false := by decide
   rw [h6] at h5
   cases h5
/-! Names side by side. -/
def joinL (ns : List (List UInt8)) : List UInt8 := ns.flatMap (47 :: ·)
theorem splitL_no {x : UInt8} : ∀ {l : List UInt8}, x ∉ l -> splitL x l = [l]
 | [], _ => rfl
 | b :: l, h => by
  have hb : b ≠ x := fun e => h (by simp [e])
  rw [splitL, if_neg hb, splitL_no (l := l) (fun h' => h (by simp [h']))]
theorem splitL_at {x : UInt8} (r : List UInt8) : ∀ {l : List UInt8}, x ∉ l -> splitL x (l ++ x :: r) = l :: splitL x r
 | [], _ => by rw [List.nil_append, splitL, if_pos rfl]
 | b :: l, h => by
  have hb : b ≠ x := fun e => h (by simp [e])
  rw [List.cons_append, splitL, if_neg hb, splitL_at r (l := l) (fun h' => h (by simp [h']))]
theorem split_join : ∀ (ns : List (List UInt8)) (l : List UInt8), (47 : UInt8) ∉ l -> (∀ n ∈ ns, PartP n) -> splitL 47 (l ++ joinL ns) = l :: ns
 | [], l, h, _ => by simp [joinL, splitL_no h]
 | n :: ns, l, h, hn => by
  have h1 : l ++ joinL (n :: ns) = l ++ 47 :: (n ++ joinL ns) := by simp [joinL]
  rw [h1, splitL_at _ h, split_join ns n (hn n (by simp)).2.2.2 (fun m hm => hn m (by simp [hm]))]
theorem split_joinT (t : List UInt8) : ∀ (ns : List (List UInt8)) (l : List UInt8), (47 : UInt8) ∉ l -> (∀ n ∈ ns, PartP n) -> splitL 47 (l ++ joinL ns ++ 47 :: t) = l :: ns ++ splitL 47 t
 | [], l, h, _ => by simp [joinL, splitL_at t h]
 | n :: ns, l, h, hn => by
  have h1 : l ++ joinL (n :: ns) ++ 47 :: t = l ++ 47 :: (n ++ joinL ns ++ 47 :: t) := by simp [joinL]
  rw [h1, splitL_at _ h, split_joinT t ns n (hn n (by simp)).2.2.2 (fun m hm => hn m (by simp [hm]))]
  rfl
theorem fold_parts : ∀ (ns out : List (List UInt8)), (∀ n ∈ ns, PartP n) -> ns.foldl stepP out = out ++ ns
 | [], out, _ => by simp
 | n :: ns, out, h => by
  obtain ⟨h1, h2, h3, _⟩ := h n (by simp)
  rw [List.foldl_cons, step_in h1 h2 h3, fold_parts ns _ (fun m hm => h m (by simp [hm]))]
  simp
theorem path_join {ns : List (List UInt8)} (h : ∀ n ∈ ns, PartP n) : pathL (joinL ns) = ns := by
 have h1 := split_join ns [] (by simp) h
 rw [List.nil_append] at h1
 unfold pathL
 rw [h1, List.foldl_cons, step_skip (.inl rfl), fold_parts _ _ h, List.nil_append]
theorem path_joinE {ns : List (List UInt8)} (h : ∀ n ∈ ns, PartP n) : pathL (joinL ns ++ [47]) = ns := by
 have h1 := split_joinT [] ns [] (by simp) h
 rw [List.nil_append] at h1
 unfold pathL
 rw [h1, List.cons_append, List.foldl_cons, step_skip (.inl rfl), List.foldl_append, fold_parts _ _ h, List.nil_append]
 show stepP ns [] = ns
 exact step_skip (.inl rfl)
theorem path_joinD {ns : List (List UInt8)} (h : ∀ n ∈ ns, PartP n) : pathL ([47, 46] ++ joinL ns ++ [47]) = ns := by
 have h1 := split_joinT [] ns [46] (by decide) h
 have h2 : splitL 47 ([47, 46] ++ joinL ns ++ [47]) = [] :: splitL 47 ([46] ++ joinL ns ++ [47]) := by
  have e : [47, 46] ++ joinL ns ++ [47] = 47 :: ([46] ++ joinL ns ++ [47]) := by simp
  rw [e, splitL, if_pos rfl]
 unfold pathL
 rw [h2, h1, List.foldl_cons, step_skip (.inl rfl), List.cons_append, List.foldl_cons, step_skip (.inr rfl), List.foldl_append, fold_parts _ _ h, List.nil_append]
 show stepP ns [] = ns
 exact step_skip (.inl rfl)
/-! Texts. -/
def rawL (ns : List ByteArray) : List (List UInt8) := ns.map fun s => s.data.toList
theorem raw_str (ns : List ByteArray) : (rawL ns).map str = ns := by
 unfold rawL
 rw [List.map_map]
 conv => rhs; rw [<- List.map_id ns]
 refine List.map_congr_left fun s _ => ?_
 show str s.data.toList = s
 exact bytes_ext (str_list _)
theorem raw_part {ns : List ByteArray} (h : ∀ s ∈ ns, nameOkB s = true) : ∀ n ∈ rawL ns, PartP n := by
 intro n hn
 obtain ⟨s, hs, rfl⟩ := List.mem_map.1 hn
 exact name_part (h s hs)
theorem sp_is {s : ByteArray} {ns : List ByteArray} (hz : s.size <= 200) (h0 : s.data.toList.head? = some 47) (hp : pathL s.data.toList = rawL ns) (h : ∀ m ∈ ns, nameOkB m = true) : spB s = (ns, true) := by
 have h1 : inI s.size 1 200 = true := by
  refine inI_true.2 ⟨?_, by omega⟩
  have h2 := size_list s
  cases h3 : s.data.toList with
  | nil => rw [h3] at h0; cases h0
  | cons a l => rw [h3] at h2; simp at h2; omega
 unfold spB
 rw [if_pos ⟨h1, h0⟩, hp, raw_str, if_pos (List.all_eq_true.2 h)]
theorem sp_of {s : ByteArray} {l : List ByteArray} {b : Bool} (h : spB s = (l, b)) : (b = true -> s.size <= 200) /\ ∀ m ∈ l, nameOkB m = true := by
 unfold spB at h
 split at h
 ·rename_i h1
  split at h
  ·rename_i h2
   have h3 := congrArg Prod.fst h
   simp only at h3
   refine ⟨fun _ => ?_, fun m hm => ?_⟩
   ·have := (inI_true.1 h1.1).2; omega
   ·rw [<- h3] at hm; exact List.all_eq_true.1 h2 m hm
  ·injection h with h3 h4
   subst h3; subst h4
   exact ⟨(by intro h; cases h), (by intro m hm; cases hm)⟩
 ·injection h with h3 h4
  subst h3; subst h4
  exact ⟨(by intro h; cases h), (by intro m hm; cases hm)⟩
/-- The names of a path, put together again. -/
def agn (l : List ByteArray) : ByteArray := l.foldl (fun s t => s ++ t ++ ⟨#[47]⟩) ⟨#[47]⟩
theorem agn_snoc (l : List ByteArray) (t : ByteArray) : agn (l ++ [t]) = agn l ++ t ++ ⟨#[47]⟩ := by unfold agn; rw [List.foldl_append]; rfl
theorem joinL_snoc (ns : List (List UInt8)) (n : List UInt8) : joinL (ns ++ [n]) = joinL ns ++ 47 :: n := by simp [joinL]
theorem agn_gen : ∀ (l : List ByteArray) (acc : ByteArray) (p : List UInt8), acc.data.toList = p ++ [47] -> (l.foldl (fun s t => s ++ t ++ ⟨#[47]⟩) acc).data.toList = p ++ joinL (rawL l) ++ [47]
 | [], acc, p, h => by simpa [joinL, rawL] using h
 | t :: l, acc, p, h => by
  rw [List.foldl_cons, agn_gen l (acc ++ t ++ ⟨#[47]⟩) (p ++ 47 :: t.data.toList) (by simp [ByteArray.data_append, h])]
  simp [joinL, rawL]
theorem agn_list (l : List ByteArray) : (agn l).data.toList = joinL (rawL l) ++ [47] := by
 have h := agn_gen l ⟨#[47]⟩ [] rfl
 rw [List.nil_append] at h
 exact h
theorem agn_head (l : List ByteArray) : (agn l).data.toList.head? = some 47 := by
 rw [agn_list]
 cases l with
 | nil => rfl
 | cons t l => rfl
theorem agn_sp {s : ByteArray} {l : List ByteArray} {b : Bool} (h : spB s = (l, b)) (hz : (agn l).size <= 200) : spB (agn l) = (l, true) :=
 sp_is hz (agn_head l) (by rw [agn_list]; exact path_joinE (raw_part (sp_of h).2)) (sp_of h).2
theorem name_le {s : ByteArray} (h : nameOkB s = true) : s.size <= 24 := by
 unfold nameOkB at h
 split at h
 ·cases h
 ·simp only [Bool.and_eq_true] at h
  have := (inI_true.1 h.1.1.1).2
  omega
theorem agn_szs : ∀ (l : List ByteArray) (acc : ByteArray), (∀ m ∈ l, nameOkB m = true) -> (l.foldl (fun s t => s ++ t ++ ⟨#[47]⟩) acc).size <= acc.size + 25 * l.length
 | [], acc, _ => by simp
 | t :: l, acc, h => by
  have h1 := agn_szs l (acc ++ t ++ ⟨#[47]⟩) fun m hm => h m (by simp [hm])
  rw [ByteArray.size_append, ByteArray.size_append] at h1
  have h3 := name_le (h t (by simp))
  have h4 : (⟨#[47]⟩ : ByteArray).size = 1 := rfl
  rw [List.foldl_cons, List.length_cons]
  omega
theorem agn_size {l : List ByteArray} (h : ∀ m ∈ l, nameOkB m = true) : (agn l).size <= 1 + 25 * l.length := agn_szs l ⟨#[47]⟩ h
section
variable {nx : Int} {xs : List InoD}
theorem wk_app : ∀ (l : List ByteArray) (a b : Int) (s : ByteArray), wkP xs a l = (b, 0) -> b ≠ 0 ∨ l = [] ∨ True -> wkP xs a (l ++ [s]) = wkP xs b [s]
 | [], a, b, s, h, _ => by
  have h1 := congrArg Prod.fst h
  simp only [wkP] at h1
  rw [List.nil_append, h1]
 | t :: l, a, b, s, h, _ => by
  rw [wkP] at h
  rw [List.cons_append, wkP]
  by_cases h1 : (lkP xs a t).code = 0
  ·rw [if_pos h1] at h ⊢
   exact wk_app l _ b s h (.inr (.inr trivial))
  ·rw [if_neg h1] at h
   exact absurd (congrArg Prod.snd h) h1
theorem find_own {ds : List EntD} (hd : dirOkB ds = true) {e : EntD} (he : e ∈ ds) : ds.find? (fun e' => alikeB e'.s e.s) = some e := by
 obtain ⟨_, h2, h3⟩ := dirOk_pw.1 hd
 have hn : ∀ x ∈ ds, nameOkB x.s = true := by
  intro x hx
  have h4 := h2 x hx
  unfold entOkB at h4
  simp only [Bool.and_eq_true] at h4
  exact h4.1
 have hself : alikeB e.s e.s = true := by unfold alikeB; simp [hn e he]
 have hkey : ∀ {a b : ByteArray}, alikeB a b = true -> keyB a = keyB b := by
  intro a b h
  unfold alikeB at h
  simp only [Bool.and_eq_true] at h
  exact (@decide_eq_true_iff _ (Classical.propDecidable _)).1 h.2
 cases hf : ds.find? (fun e' => alikeB e'.s e.s) with
 | none => exact absurd hself (List.find?_eq_none.1 hf e he)
 | some e' =>
  have h5 := hkey (List.find?_some (p := fun (e' : EntD) => alikeB e'.s e.s) hf)
  have h6 := List.mem_of_find?_eq_some hf
  congr 1
  obtain ⟨i, hi, rfl⟩ := List.getElem_of_mem he
  obtain ⟨j, hj, rfl⟩ := List.getElem_of_mem h6
  have hpw := List.pairwise_iff_getElem.1 h3
  rcases Nat.lt_trichotomy i j with h7 | h7 | h7
  ·exact absurd h5.symm (hpw i j hi hj h7).2
  ·subst h7; rfl
  ·exact absurd h5 (hpw j i hj hi h7).2
theorem lk_own (hv : VolP nx xs) {x : InoD} (hx : x ∈ xs) {e : EntD} (he : e ∈ x.es) : wkP xs x.id [e.s] = (e.d, 0) := by
 obtain ⟨k, hk, rfl⟩ := List.getElem_of_mem hx
 have hd := hv.dir hx (List.ne_nil_of_mem he)
 obtain ⟨j, hj, hp, hid⟩ := plc_lt (hv.not1 hx he).2
 have h1 := lk_hit hk (plc_own hv.grow hk) hd (find_own (hv.dirOk hx hd) he) hj hp
 rw [wkP, h1, if_pos rfl, wkP]
 show (xs[j].id, (0 : Int)) = _
 rw [hid]
/-- A text of an inode, taken apart. -/
theorem pth_names (hv : VolP nx xs) {a : Int} {n : Nat} {t : ByteArray} (h : Pth xs a n t) : ∃ ns : List ByteArray, t.data.toList = joinL (rawL ns) /\ (∀ m ∈ ns, nameOkB m = true) /\ wkP xs 1 ns = (a, 0) /\ ns.length = n := by
 induction h with
 | root => exact ⟨[], by rw [str_list]; rfl, by simp, rfl, rfl⟩
 | @step x e n t hx he h1 hp ih =>
  obtain ⟨ns, h2, h3, h4, h5⟩ := ih
  have hok := hv.dirOk hx (hv.dir hx (List.ne_nil_of_mem he))
  refine ⟨ns ++ [e.s], ?_, ?_, ?_, by simp [h5]⟩
  ·have h6 : rawL (ns ++ [e.s]) = rawL ns ++ [e.s.data.toList] := by simp [rawL]
   rw [h6, joinL_snoc]
   simp [ByteArray.data_append, h2, str]
  ·intro m hm
   rcases List.mem_append.1 hm with hm | hm
   ·exact h3 m hm
   ·rw [List.mem_singleton.1 hm]
    have h4 := (dirOk_pw.1 hok).2.1 e he
    unfold entOkB at h4
    simp only [Bool.and_eq_true] at h4
    exact h4.1
  ·rw [wk_app ns 1 x.id e.s h4 (.inr (.inr trivial))]
   exact lk_own hv hx he
theorem foldT_mem {T : Int -> ByteArray} : ∀ (l : List (Int × ByteArray)) (best : ByteArray), foldT T l best = best ∨ ∃ p ∈ l, foldT T l best = T p.1 ++ sep ++ p.2
 | [], _ => .inl rfl
 | p :: l, best => by
  have h1 : foldT T (p :: l) best = foldT T l (tpick best (T p.1 ++ sep ++ p.2)) := rfl
  rw [h1]
  rcases foldT_mem l (tpick best (T p.1 ++ sep ++ p.2)) with h | ⟨q, hq, h⟩
  ·rw [h]
   unfold tpick
   split
   ·exact .inr ⟨p, by simp, rfl⟩
   ·exact .inl rfl
  ·exact .inr ⟨q, by simp [hq], h⟩
/-- What PathOf gives is a text of the inode. -/
theorem path_says {a : Int} {s : ByteArray} (hz : ∀ x ∈ xs, ∀ e ∈ x.es, e.s.size <= 2000000) (h : pathP ⟨nx, xs⟩ a = (s, true)) : volOkB nx xs = true /\ ∃ ns : List ByteArray, (∀ m ∈ ns, nameOkB m = true) /\ wkP xs 1 ns = (a, 0) /\ ((ns ≠ [] /\ s.data.toList = joinL (rawL ns)) ∨ (ns = [] /\ s = ⟨#[47]⟩)) := by
 unfold pathP at h
 split at h
 ·rename_i h0
  have hv := volOkB_iff.1 h0.1
  refine ⟨h0.1, ?_⟩
  split at h
  ·rename_i h1
   subst h1
   have h2 : (⟨#[47]⟩ : ByteArray) = s := congrArg Prod.fst h
   exact ⟨[], by simp, rfl, .inr ⟨rfl, h2.symm⟩⟩
  ·rename_i h1
   have h2 : textI xs (txtT xs) a xs.length = s := congrArg Prod.fst h
   rw [textI_all] at h2
   obtain ⟨k, hk, _, hid⟩ := plc_lt h0.2
   obtain ⟨n, t, hp⟩ := hv.pth (List.getElem_mem hk)
   rw [hid] at hp
   have hne : pairs xs a ≠ [] := by
    cases hp with
    | root => exact absurd rfl h1
    | @step x e n t hx he _ _ => exact List.ne_nil_of_mem (pairs_mem.2 ⟨x, hx, e, he, rfl, rfl⟩)
   rcases foldT_mem (T := txtT xs) (pairs xs a) ⟨#[]⟩ with h3 | ⟨p, hpm, h3⟩
   ·have h4 := foldT_some (T := txtT xs) (pairs xs a) ⟨#[]⟩ (.inr hne)
    rw [h3] at h4
    exact absurd rfl h4
   ·obtain ⟨x, hx, e, he, hea, rfl⟩ := pairs_mem.1 hpm
    rw [h2] at h3
    have hd := up_is hv hx (hasE_iff.2 ⟨e, he, rfl⟩)
    obtain ⟨m, t', hp'⟩ := hv.pth hx
    rw [txtT_dir hv hz hd, txt_is hv hp' hd] at h3
    have h5 : Pth xs a (m + 1) s := by
     rw [h3, <- hea]
     exact Pth.step hx he (by rw [hea]; exact h1) hp'
    obtain ⟨ns, h6, h7, h8, h9⟩ := pth_names hv h5
    exact ⟨ns, h7, h8, .inl ⟨(by intro h; rw [h] at h9; simp at h9), h6⟩⟩
 ·cases h
/-- It is walked to the inode. -/
theorem path_walk {a : Int} {s : ByteArray} (hz : ∀ x ∈ xs, ∀ e ∈ x.es, e.s.size <= 2000000) (h : pathP ⟨nx, xs⟩ a = (s, true)) (h200 : s.size <= 200) : walkP ⟨nx, xs⟩ (spB s) = (a, 0) /\
  (s.size + 3 <= 200 -> walkP ⟨nx, xs⟩ (spB (⟨#[47, 46]⟩ ++ s ++ ⟨#[47]⟩)) = (a, 0)) := by
 obtain ⟨hok, ns, h1, h2, h3⟩ := path_says hz h
 have key : ∀ t : ByteArray, spB t = (ns, true) -> walkP ⟨nx, xs⟩ (spB t) = (a, 0) := by
  intro t ht
  rw [ht, walk_ok rfl hok]
  exact h2
 rcases h3 with ⟨hne, h3⟩ | ⟨rfl, rfl⟩
 ·refine ⟨key _ (sp_is h200 ?_ (by rw [h3]; exact path_join (raw_part h1)) h1), fun h203 => key _ (sp_is ?_ ?_ ?_ h1)⟩
  ·rw [h3]
   cases ns with
   | nil => exact absurd rfl hne
   | cons m ns => rfl
  ·rw [ByteArray.size_append, ByteArray.size_append]
   have h4 : (⟨#[47, 46]⟩ : ByteArray).size = 2 := rfl
   have h5 : (⟨#[47]⟩ : ByteArray).size = 1 := rfl
   omega
  ·simp [ByteArray.data_append]
  ·have h6 : (⟨#[47, 46]⟩ ++ s ++ ⟨#[47]⟩ : ByteArray).data.toList = [47, 46] ++ joinL (rawL ns) ++ [47] := by simp [ByteArray.data_append, h3]
   rw [h6]
   exact path_joinD (raw_part h1)
 ·refine ⟨key _ (sp_is (by decide) rfl rfl h1), fun _ => key _ (sp_is (by decide) rfl rfl h1)⟩
end

end Go.Proofs.YtjjniapamdleoaaGreatDoor
