/- A book behind a fall: plain Lean. -/
import Derived.Test.YtghgafbfpejinaaGreatDoorRFlush
import Derived.Test.YtghgafbfpejinaaGreatDoorRRHome
import Derived.Test.YtghgafbfpejinaaGreatDoorRDoP
import Derived.Test.YtghgafbfpejinaaGreatDoorROp3
import Derived.Test.YtghgafbfpejinaaGreatDoorRRing
namespace Go.Proofs.YtghgafbfpejinaaGreatDoor
open Go Go.RowKit

/-- Is a bit of a mask set? -/
def bitB (m : Int) (k : Nat) : Bool := decide (0 ≤ m) && decide (m / 2 ^ k % 2 = 1)
/-- The first so many writes of a mask are done. -/
def wrmB (m : Int) (rg hm : List ByteArray) (pd : List (Int × ByteArray)) : Nat → List ByteArray × List ByteArray
 | 0 => (rg, hm)
 | k + 1 => match pd[k]? with
  | none => wrmB m rg hm pd k
  | some e => if bitB m k = true then wrB (wrmB m rg hm pd k) e else wrmB m rg hm pd k
section
variable {m : Int} {rg hm : List ByteArray} {pd : List (Int × ByteArray)}
theorem wrm_on {k : Nat} (hk : k < pd.length) (h : bitB m k = true) : wrmB m rg hm pd (k + 1) = wrB (wrmB m rg hm pd k) pd[k] := by
 rw [wrmB, List.getElem?_eq_getElem hk]; simp only; rw [if_pos h]
theorem wrm_off {k : Nat} (hk : k < pd.length) (h : bitB m k = false) : wrmB m rg hm pd (k + 1) = wrmB m rg hm pd k := by
 rw [wrmB, List.getElem?_eq_getElem hk]; simp only; rw [if_neg (by rw [h]; simp)]
theorem wrm_len : ∀ k, (wrmB m rg hm pd k).1.length = rg.length ∧ (wrmB m rg hm pd k).2.length = hm.length
 | 0 => ⟨rfl, rfl⟩
 | k + 1 => by
  have h1 := wrm_len k
  rw [wrmB]
  split
  ·exact h1
  ·split
   ·rename_i e _ _
    have h2 := wrB_len (wrmB m rg hm pd k) e
    exact ⟨h2.1.trans h1.1, h2.2.trans h1.2⟩
   ·exact h1
end
/-- All texts of a book's places are of a size. -/
def SzL (n : Nat) (l : List ByteArray) : Prop := ∀ s ∈ l, s.size ≤ n
theorem SzL.set {n : Nat} {l : List ByteArray} (h : SzL n l) {k : Nat} {s : ByteArray} (hs : s.size ≤ n) : SzL n (l.set k s) := by
 intro t ht
 rcases List.mem_or_eq_of_mem_set ht with h1 | h1
 ·exact h t h1
 ·rw [h1]; exact hs
theorem wrB_sz {n : Nat} {a : List ByteArray × List ByteArray} {e : Int × ByteArray} (h1 : SzL n a.1) (h2 : SzL n a.2) (he : e.2.size ≤ n) : SzL n (wrB a e).1 ∧ SzL n (wrB a e).2 := by
 unfold wrB; split
 ·exact ⟨h1.set he, h2⟩
 ·exact ⟨h1, h2.set he⟩
theorem wrm_sz {n : Nat} {m : Int} {rg hm : List ByteArray} {pd : List (Int × ByteArray)} (h1 : SzL n rg) (h2 : SzL n hm) (h3 : ∀ e ∈ pd, e.2.size ≤ n) : ∀ k, SzL n (wrmB m rg hm pd k).1 ∧ SzL n (wrmB m rg hm pd k).2
 | 0 => ⟨h1, h2⟩
 | k + 1 => by
  have h := wrm_sz (m := m) h1 h2 h3 k
  rw [wrmB]
  split
  ·exact h
  ·rename_i e he
   split
   ·exact wrB_sz h.1 h.2 (h3 e (List.mem_of_getElem? he))
   ·exact h

/-- The newest right home so far: its place (-1: none), its number, its directory. -/
structure HmD where
 at_ : Int
 bs : Int
 dr : List EntD
noncomputable def hmS (st : HmD) (i : Int) (s : ByteArray) : HmD := open Classical in
 if (homeP s).2 = true ∧ (st.at_ < 0 ∨ st.bs < (homeP s).1.1) then ⟨i, (homeP s).1.1, (homeP s).1.2⟩ else st
noncomputable def hmP (a b : ByteArray) : HmD := hmS (hmS ⟨-1, 0, []⟩ 0 a) 1 b
theorem hmS_yes {st : HmD} {i : Int} {s : ByteArray} (h : (homeP s).2 = true ∧ (st.at_ < 0 ∨ st.bs < (homeP s).1.1)) : hmS st i s = ⟨i, (homeP s).1.1, (homeP s).1.2⟩ := by unfold hmS; rw [if_pos h]
theorem hmS_no {st : HmD} {i : Int} {s : ByteArray} (h : ¬ ((homeP s).2 = true ∧ (st.at_ < 0 ∨ st.bs < (homeP s).1.1))) : hmS st i s = st := by unfold hmS; rw [if_neg h]

/-- One record more of a ring. -/
noncomputable def fallS (L : List ByteArray) (ds : List EntD) (q : Int) : Option (List EntD) := open Classical in
 if recAtB L (q + 1) = true ∧ (opP (txtAt L (q + 1))).2 = true ∧ (doP ds (opP (txtAt L (q + 1))).1.1 (opP (txtAt L (q + 1))).1.2.1 (opP (txtAt L (q + 1))).1.2.2).2 = true
 then some (doP ds (opP (txtAt L (q + 1))).1.1 (opP (txtAt L (q + 1))).1.2.1 (opP (txtAt L (q + 1))).1.2.2).1 else none
theorem fall_norec {L : List ByteArray} {ds : List EntD} {q : Int} (h : recAtB L (q + 1) = false) : fallS L ds q = none := by unfold fallS; rw [if_neg]; rintro ⟨h1, _⟩; rw [h] at h1; cases h1
theorem fall_noop {L : List ByteArray} {ds : List EntD} {q : Int} (h : (opP (txtAt L (q + 1))).2 = false) : fallS L ds q = none := by unfold fallS; rw [if_neg]; rintro ⟨_, h1, _⟩; rw [h] at h1; cases h1
theorem fall_nodo {L : List ByteArray} {ds : List EntD} {q : Int} {k i : Int} {s : ByteArray} {b : Bool} (h : opP (txtAt L (q + 1)) = ((k, s, i), b)) (h' : (doP ds k s i).2 = false) : fallS L ds q = none := by
 unfold fallS; rw [if_neg]; rintro ⟨_, _, h1⟩; rw [h] at h1; simp only at h1; rw [h'] at h1; cases h1
theorem fall_yes {L : List ByteArray} {ds ds' : List EntD} {q : Int} {k i : Int} {s : ByteArray} (h0 : recAtB L (q + 1) = true) (h : opP (txtAt L (q + 1)) = ((k, s, i), true)) (h' : doP ds k s i = (ds', true)) : fallS L ds q = some ds' := by
 unfold fallS; rw [if_pos]
 ·rw [h]; simp only; rw [h']
 ·exact ⟨h0, by rw [h], by rw [h]; simp only; rw [h']⟩
/-- So many records more: the directory, the number, the ring. -/
noncomputable def fallN (L : List ByteArray) : Nat → List EntD → Int → List ByteArray → List EntD × Int × List ByteArray
 | 0, ds, q, rg => (ds, q, rg)
 | n + 1, ds, q, rg => match fallS L ds q with
  | none => (ds, q, rg)
  | some ds' => fallN L n ds' (q + 1) (rg.set ((q + 1) % 6).toNat (at6 L (q + 1)))
theorem fallN_stop {L : List ByteArray} {n : Nat} {ds : List EntD} {q : Int} {rg : List ByteArray} (h : fallS L ds q = none) : fallN L n ds q rg = (ds, q, rg) := by
 cases n with
 | zero => rfl
 | succ n => rw [fallN, h]
theorem fallN_go {L : List ByteArray} {n : Nat} {ds ds' : List EntD} {q : Int} {rg : List ByteArray} (h : fallS L ds q = some ds') : fallN L (n + 1) ds q rg = fallN L n ds' (q + 1) (rg.set ((q + 1) % 6).toNat (at6 L (q + 1))) := by rw [fallN, h]
theorem fallS_rec {L : List ByteArray} {ds ds' : List EntD} {q : Int} (h : fallS L ds q = some ds') : recAtB L (q + 1) = true := by
 unfold fallS at h; split at h
 ·rename_i h1; exact h1.1
 ·cases h
/-- Names of entries are of a size. -/
def SzE (n : Nat) (ds : List EntD) : Prop := ∀ e ∈ ds, e.s.size ≤ n
theorem doP_sz {n : Nat} {ds L : List EntD} {k i : Int} {s : ByteArray} {b : Bool} (hs : s.size ≤ n) (hd : SzE n ds) (h : doP ds k s i = (L, b)) : SzE n L := by
 have h0 : SzE n [] := by intro e he; cases he
 unfold doP at h
 split at h
 ·unfold addP at h
  split at h
  ·split at h <;> injection h with h1 _ <;> subst h1
   ·intro e he
    unfold insL at he
    rcases List.mem_append.1 he with h1 | h1
    ·exact hd e ((List.takeWhile_sublist _).subset h1)
    ·rcases List.mem_cons.1 h1 with h2 | h2
     ·rw [h2]; exact hs
     ·exact hd e ((List.dropWhile_sublist _).subset h2)
   ·exact hd
  ·injection h with h1 _; subst h1; exact h0
 ·split at h
  ·unfold dropP at h
   split at h
   ·split at h <;> injection h with h1 _ <;> subst h1
    ·exact hd
    ·intro e he
     rcases List.mem_append.1 he with h1 | h1
     ·exact hd e (List.mem_of_mem_take h1)
     ·exact hd e (List.mem_of_mem_drop h1)
   ·injection h with h1 _; subst h1; exact h0
  ·split at h
   ·unfold spellP at h
    split at h
    ·split at h <;> injection h with h1 _ <;> subst h1
     ·exact hd
     ·intro e he
      rcases List.mem_append.1 he with h1 | h1
      ·rcases List.mem_append.1 h1 with h2 | h2
       ·exact hd e (List.mem_of_mem_take h2)
       ·obtain ⟨x, _, rfl⟩ := List.mem_map.1 h2; exact hs
      ·exact hd e (List.mem_of_mem_drop h1)
    ·injection h with h1 _; subst h1; exact h0
   ·split at h <;> injection h with h1 _ <;> subst h1
    ·exact hd
    ·exact h0
theorem showHome_in {q : Int} {L : List EntD} {s : ByteArray} (h : showHomeB q L = s) (hs : s.size ≠ 0) : inI q 0 1000000 = true ∧ dirOkB L = true := by
 unfold showHomeB at h
 split at h
 ·rename_i h1
  simp only [Bool.and_eq_true] at h1
  exact ⟨h1.1, h1.2⟩
 ·rw [← h] at hs; exact absurd rfl hs
theorem homeP_ok {s : ByteArray} (h : (homeP s).2 = true) : inI (homeP s).1.1 0 1000000 = true ∧ dirOkB (homeP s).1.2 = true := by
 unfold homeP at h ⊢
 split at h
 ·cases h
 ·rename_i h1
  rw [if_neg h1]
  have h2 : s.size ≠ 0 := fun h => h1 (.inr (.inl h))
  have h3 : showHomeB (hd1 s).1 (hd3 s).1 = s := by
   by_cases h3 : showHomeB (hd1 s).1 (hd3 s).1 = s
   ·exact h3
   ·exact absurd (.inr (.inr h3)) h1
  exact showHome_in h3 h2
theorem dirOk_sz {ds : List EntD} (h : dirOkB ds = true) : SzE 24 ds ∧ ds.length ≤ 12 := by
 refine ⟨fun e he => ?_, (dirOkB_iff.1 h).1⟩
 have h1 := dir_names h e he
 unfold nameOkB at h1
 split at h1
 ·cases h1
 ·simp [inI] at h1; omega
theorem txt_sz {L : List ByteArray} {n : Nat} (hL : SzL n L) (h6 : L.length = 6) (q : Int) : (txtAt L q).size ≤ n := by
 obtain ⟨k, hk, _, h⟩ := at6_get h6 q
 have h1 := hL _ (List.getElem_mem hk)
 unfold txtAt
 rw [h]
 unfold recP
 split
 ·rename_i q' t he
  unfold recOf at he
  split at he
  ·split at he
   ·injection he with he; injection he with _ he; subst he; show (dropB _ _).size ≤ n; rw [dropB_size]; omega
   ·cases he
  ·cases he
 ·show 0 ≤ n; omega

/-- The book behind a fall; and was a home found? -/
noncomputable def fallP (B : BookD) (m : Int) : BookD × Bool := open Classical in
 if bookOkB B = true then
  if (hmP ((wrmB m B.rg B.hm B.pd B.pd.length).2.getD 0 ⟨#[]⟩) ((wrmB m B.rg B.hm B.pd B.pd.length).2.getD 1 ⟨#[]⟩)).at_ < 0 then (B, false)
  else
   let H := hmP ((wrmB m B.rg B.hm B.pd B.pd.length).2.getD 0 ⟨#[]⟩) ((wrmB m B.rg B.hm B.pd B.pd.length).2.getD 1 ⟨#[]⟩)
   let R := fallN (wrmB m B.rg B.hm B.pd B.pd.length).1 6 H.dr H.bs (List.replicate 6 ⟨#[]⟩)
   (⟨R.2.2, (wrmB m B.rg B.hm B.pd B.pd.length).2, [], R.1, R.2.1, H.bs, R.2.1, H.at_, 0⟩, true)
 else (zeroBk, false)

end Go.Proofs.YtghgafbfpejinaaGreatDoor
