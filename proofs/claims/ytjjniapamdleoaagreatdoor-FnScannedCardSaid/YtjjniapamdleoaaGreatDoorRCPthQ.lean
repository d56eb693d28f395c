/- The text of an inode leads to it; what is cleaned of a path is what it was: plain. -/
import Derived.Test.YtjjniapamdleoaaGreatDoorRCVolOk
import Derived.Test.YtjjniapamdleoaaGreatDoorRCLook2
import Derived.Test.YtjjniapamdleoaaGreatDoorRCPath
import Derived.Test.YtjjniapamdleoaaGreatDoorRCDirK
namespace Go.Proofs.YtjjniapamdleoaaGreatDoor
open Go Go.RowKit

/-! A right name has no slash. -/
theorem contV_no47 : ∀ (k : Nat) (l : List UInt8) (c d : Nat), contV k l c = some d -> (47 : UInt8) ∉ l.take k
 | 0, _, _, _, _ => by simp
 | _ + 1, [], _, _, _ => by simp
 | k + 1, b :: l, c, d, h => by
  rw [contV] at h
  split at h
  ·rename_i hb
   have ih := contV_no47 k l _ d h
   rw [List.take_succ_cons, List.mem_cons]
   rintro (h1 | h1)
   ·rw [<- h1] at hb
    exact absurd hb.1 (by decide)
   ·exact ih h1
  ·cases h
theorem one_47 {l : List UInt8} (h2 : (one l).2 ≠ 0) (h : (47 : UInt8) ∈ l.take (one l).2) : (one l).1 = 47 := by
 rcases l with _ | ⟨b, r⟩
 ·simp at h
 ·rw [one_cons] at h h2 ⊢
  by_cases h0 : leadN b.toNat = 0
  ·rw [if_pos h0] at h2; exact absurd rfl h2
  ·rw [if_neg h0] at h h2 ⊢
   rcases h3 : contV (leadN b.toNat - 1) r (leadC b.toNat) with _ | d
   ·rw [h3] at h2; exact absurd rfl h2
   ·rw [h3] at h h2
    rw [fin1_some] at h h2 ⊢
    by_cases h4 : leastN (leadN b.toNat) <= d /\ signOk d = true
    ·rw [if_pos h4] at h ⊢
     have h5 := contV_no47 _ _ _ _ h3
     obtain ⟨m, hm⟩ : ∃ m, leadN b.toNat = m + 1 := ⟨leadN b.toNat - 1, by omega⟩
     have h6 : (47 : UInt8) ∈ (b :: r).take (m + 1) := by rw [<- hm]; exact h
     rw [hm, Nat.add_sub_cancel] at h3 h5
     rw [List.take_succ_cons, List.mem_cons] at h6
     rcases h6 with h6 | h6
     ·subst h6
      have h7 : leadN (47 : UInt8).toNat = 1 := rfl
      have hm0 : m = 0 := by omega
      subst hm0
      rw [contV] at h3
      have h8 := Option.some.inj h3
      show d = 47
      rw [<- h8]; rfl
     ·exact absurd h6 h5
    ·rw [if_neg h4] at h2; exact absurd rfl h2
theorem dec_47 : ∀ (n : Nat) (l : List UInt8), l.length <= n -> ∀ xs, decL l = some xs -> (47 : UInt8) ∈ l -> 47 ∈ xs
 | 0, l, hl, xs, _, h => by
  rw [List.eq_nil_of_length_eq_zero (by omega : l.length = 0)] at h; cases h
 | n + 1, l, hl, xs, hd, h => by
  have hn : l ≠ [] := by rintro rfl; cases h
  by_cases h2 : (one l).2 = 0
  ·rw [decL, if_neg hn, dif_pos h2] at hd; cases hd
  ·have hle := one_le l
   rw [decL, if_neg hn, dif_neg h2] at hd
   rcases h3 : decL (l.drop (one l).2) with _ | ys
   ·rw [h3] at hd; cases hd
   ·rw [h3] at hd
    simp only [Option.map_some, Option.some.injEq] at hd
    subst hd
    have h5 : (47 : UInt8) ∈ l.take (one l).2 ++ l.drop (one l).2 := by rw [List.take_append_drop]; exact h
    rcases List.mem_append.1 h5 with h | h
    ·rw [one_47 h2 h]; simp
    ·exact List.mem_cons_of_mem _ (dec_47 n _ (by rw [List.length_drop]; omega) ys h3 h)
/-- A part of a path that is a name. -/
def PartP (l : List UInt8) : Prop := l ≠ [] /\ l ≠ [46] /\ l ≠ [46, 46] /\ (47 : UInt8) ∉ l
theorem name_part {s : ByteArray} (h : nameOkB s = true) : PartP s.data.toList := by
 unfold nameOkB at h
 split at h
 ·cases h
 ·rename_i xs hx
  simp only [Bool.and_eq_true, Bool.not_eq_true', beq_eq_false_iff_ne, ne_eq, ByteArray.toList_eq] at h
  obtain ⟨⟨⟨h1, h2⟩, h3⟩, h4⟩ := h
  refine ⟨?_, h2, h3, ?_⟩
  ·intro h5
   have h6 := (inI_true.1 h1).1
   have h7 := size_list s
   rw [h5] at h7
   simp at h7
   omega
  ·intro hm
   have h5 := List.all_eq_true.1 h4 47 (dec_47 _ _ (Nat.le_refl _) xs hx hm)
   have h6 : kn ((47 : Nat) : Int) = false := by decide
   rw [h6] at h5
   cases h5
/-! Names side by side. -/
def joinL (ns : List (List UInt8)) : List UInt8 := ns.flatMap (47 :: ·)
theorem splitL_no {x : UInt8} : ∀ {l : List UInt8}, x ∉ l -> splitL x l = [l]
 | [], _ => rfl
 | b :: l, h => by
  have hb : b ≠ x := fun e => h (by simp [e])
  rw [splitL, if_neg hb, splitL_no (l := l) (fun h' => h (by simp [h']))]
theorem splitL_at {x : UInt8} (r : List UInt8) : ∀ {l : List UInt8}, x ∉ l -> splitL x (l ++ x :: r) = l :: splitL x r
 | [], _ => by rw [List.nil_append, splitL, if_pos rfl]
 | b :: l, h => by
  have hb : b ≠ x := fun e => h (by simp [e])
  rw [List.cons_append, splitL, if_neg hb, splitL_at r (l := l) (fun h' => h (by simp [h']))]
theorem split_join : ∀ (ns : List (List UInt8)) (l : List UInt8), (47 : UInt8) ∉ l -> (∀ n ∈ ns, PartP n) -> splitL 47 (l ++ joinL ns) = l :: ns
 | [], l, h, _ => by simp [joinL, splitL_no h]
 | n :: ns, l, h, hn => by
  have h1 : l ++ joinL (n :: ns) = l ++ 47 :: (n ++ joinL ns) := by simp [joinL]
  rw [h1, splitL_at _ h, split_join ns n (hn n (by simp)).2.2.2 (fun m hm => hn m (by simp [hm]))]
theorem fold_parts : ∀ (ns out : List (List UInt8)), (∀ n ∈ ns, PartP n) -> ns.foldl stepP out = out ++ ns
 | [], out, _ => by simp
 | n :: ns, out, h => by
  obtain ⟨h1, h2, h3, _⟩ := h n (by simp)
  rw [List.foldl_cons, step_in h1 h2 h3, fold_parts ns _ (fun m hm => h m (by simp [hm]))]
  simp
theorem path_join {ns : List (List UInt8)} (h : ∀ n ∈ ns, PartP n) : pathL (joinL ns) = ns := by
 have h1 := split_join ns [] (by simp) h
 rw [List.nil_append] at h1
 unfold pathL
 rw [h1, List.foldl_cons, step_skip (.inl rfl), fold_parts _ _ h, List.nil_append]
def rawL (ns : List ByteArray) : List (List UInt8) := ns.map fun s => s.data.toList
theorem raw_str (ns : List ByteArray) : (rawL ns).map str = ns := by
 unfold rawL
 rw [List.map_map]
 conv => rhs; rw [<- List.map_id ns]
 refine List.map_congr_left fun s _ => ?_
 show str s.data.toList = s
 exact bytes_ext (str_list _)
theorem raw_part {ns : List ByteArray} (h : ∀ s ∈ ns, nameOkB s = true) : ∀ n ∈ rawL ns, PartP n := by
 intro n hn
 obtain ⟨s, hs, rfl⟩ := List.mem_map.1 hn
 exact name_part (h s hs)
theorem sp_is {s : ByteArray} {ns : List ByteArray} (hz : s.size <= 200) (h0 : s.data.toList.head? = some 47) (hp : pathL s.data.toList = rawL ns) (h : ∀ m ∈ ns, nameOkB m = true) : spB s = (ns, true) := by
 have h1 : inI s.size 1 200 = true := by
  refine inI_true.2 ⟨?_, by omega⟩
  have h2 := size_list s
  cases h3 : s.data.toList with
  | nil => rw [h3] at h0; cases h0
  | cons a l => rw [h3] at h2; simp at h2; omega
 unfold spB
 rw [if_pos ⟨h1, h0⟩, hp, raw_str, if_pos (List.all_eq_true.2 h)]
theorem name_le {s : ByteArray} (h : nameOkB s = true) : s.size <= 24 := by
 unfold nameOkB at h
 split at h
 ·cases h
 ·simp only [Bool.and_eq_true] at h
  have := (inI_true.1 h.1.1.1).2
  omega
section
variable {nx : Int} {xs : List InoD}
end

end Go.Proofs.YtjjniapamdleoaaGreatDoor
