/- Extents: what is right, the map of file blocks, plainly. -/
import Derived.Test.YtajgenjfhcapjaaFwRow
namespace Go.Proofs.Ytajgenjfhcapjaa
open Go Go.RowKit

/-- A beginning and a length lie within a size. -/
def partB (a n s : Int) : Bool := inI a 0 (s - 1) && inI n 1 (s - a)
def extOk1 (e : ExtD) : Bool := partB e.a e.l 12 && partB e.b e.l 24
theorem extOk1_iff {e : ExtD} : extOk1 e = true ↔ 1 ≤ e.l ∧ e.l ≤ 12 ∧ 0 ≤ e.a ∧ e.a + e.l ≤ 12 ∧ 0 ≤ e.b ∧ e.b + e.l ≤ 24 := by
  unfold extOk1 partB
  simp only [Bool.and_eq_true, inI_true]
  omega
theorem extOk1_nat {e : ExtD} (h : extOk1 e = true) : ∃ a b l : Nat, e = ⟨a, b, l⟩ ∧ 1 ≤ l ∧ a + l ≤ 12 ∧ b + l ≤ 24 := by
  have h := extOk1_iff.1 h
  obtain ⟨a, b, l⟩ := e
  simp only at h
  exact ⟨a.toNat, b.toNat, l.toNat, by simp; omega, by omega, by omega, by omega⟩
/-- One extent begins too early behind another one, or goes on with it. -/
def gapB (p e : ExtD) : Bool := decide (e.a < p.a + p.l) || (e.a == p.a + p.l && e.b == p.b + p.l)
/-- So many blocks are taken, each once. -/
def useL (used : List Bool) (b : Nat) : Nat → Option (List Bool)
  | 0 => some used
  | n + 1 => if used.getD b false then none else useL (used.set b true) (b + 1) n
def gapO (p : Option ExtD) (e : ExtD) : Bool := match p with | none => false | some p => gapB p e
def extsGo : Option ExtD → List Bool → List ExtD → Bool
  | _, _, [] => true
  | p, u, e :: l => extOk1 e && !(gapO p e) && (match useL u e.b.toNat e.l.toNat with | none => false | some u' => extsGo (some e) u' l)
def extsOkB (l : List ExtD) : Bool := extsGo none (List.replicate 24 false) l
def prevE (xs : List ExtD) (j : Nat) : Option ExtD := if j = 0 then none else xs[j - 1]?
theorem prevE_succ (xs : List ExtD) (j : Nat) (h : j < xs.length) : prevE xs (j + 1) = some xs[j] := by
  unfold prevE; rw [if_neg (by omega), Nat.add_sub_cancel, List.getElem?_eq_getElem h]
theorem prevE_pos (xs : List ExtD) (p : Nat) (h : p < xs.length) : prevE xs (p + 1) = some xs[p] := prevE_succ xs p h
/-- How far one has come: what is taken, and that all so far are right. -/
structure ExI (xs : List ExtD) (j : Nat) (u : List Bool) : Prop where
  go : extsGo (prevE xs j) u (xs.drop j) = extsOkB xs
  all : ∀ e ∈ xs.take j, extOk1 e = true
  len : u.length = 24
theorem ExI.zero (xs : List ExtD) : ExI xs 0 (List.replicate 24 false) := ⟨rfl, by simp, by simp⟩
theorem ExI.step {xs : List ExtD} {j : Nat} {u : List Bool} (h : ExI xs j u) (hj : j < xs.length) :
    extsOkB xs = (extOk1 xs[j] && !(gapO (prevE xs j) xs[j]) && (match useL u xs[j].b.toNat xs[j].l.toNat with | none => false | some u' => extsGo (some xs[j]) u' (xs.drop (j + 1)))) := by
  rw [← h.go, List.drop_eq_getElem_cons hj]; rfl
theorem ExI.bad1 {xs : List ExtD} {j : Nat} {u : List Bool} (h : ExI xs j u) (hj : j < xs.length) (hb : extOk1 xs[j] = false) : extsOkB xs = false := by rw [h.step hj, hb]; rfl
theorem useL_len : ∀ (n b : Nat) (u u' : List Bool), useL u b n = some u' → u'.length = u.length
  | 0, b, u, u', h => by simp [useL] at h; rw [h]
  | n + 1, b, u, u', h => by
    rw [useL] at h
    split at h
    · cases h
    · rw [useL_len n _ _ _ h, List.length_set]
theorem ExI.nextO {xs : List ExtD} {j : Nat} {u u' : List Bool} (h : ExI xs j u) (hj : j < xs.length) (h1 : extOk1 xs[j] = true) (h2 : gapO (prevE xs j) xs[j] = false) (hu : useL u xs[j].b.toNat xs[j].l.toNat = some u') : ExI xs (j + 1) u' := by
  refine ⟨?_, fun e he => ?_, by rw [useL_len _ _ _ _ hu, h.len]⟩
  · rw [h.step hj, h1, hu, prevE_succ xs j hj, h2]; rfl
  · rw [List.take_succ_eq_append_getElem hj] at he
    rcases List.mem_append.1 he with he | he
    · exact h.all e he
    · simp at he; rw [he]; exact h1
theorem ExI.badO {xs : List ExtD} {j : Nat} {u : List Bool} (h : ExI xs j u) (hj : j < xs.length) (hb : gapO (prevE xs j) xs[j] = true) : extsOkB xs = false := by
  rw [h.step hj, hb]; simp
theorem prevE_of (xs : List ExtD) {j p : Nat} (hp : j = p + 1) (h : p < xs.length) : prevE xs j = some xs[p] := by subst hp; exact prevE_succ xs p h
theorem ExI.prevOf {xs : List ExtD} {j p : Nat} {u : List Bool} (h : ExI xs j u) (hp : j = p + 1) (hj : p < xs.length) : extOk1 xs[p] = true := by
  subst hp
  exact h.all _ (by rw [List.take_succ_eq_append_getElem hj]; exact List.mem_append_right _ (List.mem_singleton.2 rfl))
theorem ExI.used {xs : List ExtD} {j : Nat} {u : List Bool} (h : ExI xs j u) (hj : j < xs.length) (hu : useL u xs[j].b.toNat xs[j].l.toNat = none) : extsOkB xs = false := by
  rw [h.step hj, hu]; simp
theorem ExI.done {xs : List ExtD} {u : List Bool} (h : ExI xs xs.length u) : extsOkB xs = true := by
  rw [← h.go, List.drop_length, extsGo]
theorem extsGo_all : ∀ (l : List ExtD) (p : Option ExtD) (u : List Bool), extsGo p u l = true → ∀ e ∈ l, extOk1 e = true
  | [], _, _, _, e, he => by cases he
  | x :: l, p, u, h, e, he => by
    have h : (extOk1 x && !(gapO p x) && (match useL u x.b.toNat x.l.toNat with | none => false | some u' => extsGo (some x) u' l)) = true := h
    rw [Bool.and_eq_true, Bool.and_eq_true] at h
    rcases List.mem_cons.1 he with rfl | he
    · exact h.1.1
    · cases hu : useL u x.b.toNat x.l.toNat with
      | none => rw [hu] at h; simp at h
      | some u' => rw [hu] at h; exact extsGo_all l _ _ h.2 e he
theorem extsOk_all {l : List ExtD} (h : extsOkB l = true) : ∀ e ∈ l, extOk1 e = true := extsGo_all _ _ _ h
theorem useL_hit {u : List Bool} {b n : Nat} (h : u.getD b false = true) : useL u b (n + 1) = none := by rw [useL, if_pos h]
theorem useL_miss {u : List Bool} {b n : Nat} (h : u.getD b false = false) : useL u b (n + 1) = useL (u.set b true) (b + 1) n := by rw [useL, if_neg (by rw [h]; simp)]

/-! ### The map -/
def setRun (m : List Int) (a : Nat) (b : Int) : Nat → List Int
  | 0 => m
  | n + 1 => setRun (m.set a b) (a + 1) (b + 1) n
def mapE (m : List Int) (e : ExtD) : List Int := setRun m e.a.toNat e.b e.l.toNat
def flatP (l : List ExtD) : List Int := l.foldl mapE (List.replicate 12 (-1))
theorem setRun_len : ∀ (n : Nat) (m : List Int) (a : Nat) (b : Int), (setRun m a b n).length = m.length
  | 0, m, a, b => rfl
  | n + 1, m, a, b => by rw [setRun, setRun_len, List.length_set]
theorem setRun_succ : ∀ (n : Nat) (m : List Int) (a : Nat) (b : Int), setRun m a b (n + 1) = (setRun m a b n).set (a + n) (b + n)
  | 0, m, a, b => by simp [setRun]
  | n + 1, m, a, b => by
    rw [setRun, setRun_succ n, setRun]
    congr 1
    · omega
    · omega
theorem foldl_len : ∀ (l : List ExtD) (m : List Int), (l.foldl mapE m).length = m.length
  | [], m => rfl
  | e :: l, m => by rw [List.foldl_cons, foldl_len, mapE, setRun_len]
theorem flatP_len (l : List ExtD) : (flatP l).length = 12 := by rw [flatP, foldl_len]; simp
theorem flat_take (l : List ExtD) (j : Nat) (h : j < l.length) : flatP (l.take (j + 1)) = mapE (flatP (l.take j)) l[j] := by
  rw [List.take_succ_eq_append_getElem h, flatP, List.foldl_append]; rfl
theorem setRun_mem : ∀ (n : Nat) (m : List Int) (a : Nat) (b x : Int), x ∈ setRun m a b n → x ∈ m ∨ (b ≤ x ∧ x < b + n)
  | 0, m, a, b, x, h => .inl h
  | n + 1, m, a, b, x, h => by
    rw [setRun] at h
    rcases setRun_mem n _ _ _ _ h with h | h
    · rcases List.mem_or_eq_of_mem_set h with h | h
      · exact .inl h
      · exact .inr ⟨by omega, by omega⟩
    · exact .inr ⟨by omega, by omega⟩
theorem foldlE_bd : ∀ (l : List ExtD) (m : List Int), (∀ e ∈ l, extOk1 e = true) → (∀ x ∈ m, -1 ≤ x ∧ x ≤ 23) → ∀ x ∈ l.foldl mapE m, -1 ≤ x ∧ x ≤ 23
  | [], m, _, hm, x, h => hm x h
  | e :: l, m, hl, hm, x, h => by
    rw [List.foldl_cons] at h
    refine foldlE_bd l _ (fun e he => hl e (List.mem_cons_of_mem _ he)) (fun x hx => ?_) x h
    obtain ⟨a, b, n, rfl, h1, h2, h3⟩ := extOk1_nat (hl e (by simp))
    rcases setRun_mem _ _ _ _ _ hx with hx | hx
    · exact hm x hx
    · simp at hx; omega
theorem flatP_bd {l : List ExtD} (hl : ∀ e ∈ l, extOk1 e = true) : ∀ x ∈ flatP l, -1 ≤ x ∧ x ≤ 23 :=
  foldlE_bd l _ hl fun x hx => by have := (List.mem_replicate.1 hx).2; omega

/-- The block of a file block. -/
def blockP (l : List ExtD) (i : Nat) : Int := if extsOkB l then (flatP l).getD i (-1) else -1
theorem blockP_bd (l : List ExtD) (i : Nat) : -1 ≤ blockP l i ∧ blockP l i ≤ 23 := by
  unfold blockP
  split
  · rename_i h
    by_cases hi : i < (flatP l).length
    · rw [List.getD_eq_getElem?_getD, List.getElem?_eq_getElem hi]
      exact flatP_bd (extsOk_all h) _ (List.getElem_mem hi)
    · rw [List.getD_eq_getElem?_getD, List.getElem?_eq_none (by omega)]
      simp
  · omega

/-! ### Extents of a map -/
def extStep (acc : List ExtD) (i : Nat) (pr b : Int) : List ExtD :=
  if b < 0 then acc else if 0 ≤ pr ∧ b = pr + 1 then acc.dropLast ++ (acc.getLast?.map fun e => (⟨e.a, e.b, e.l + 1⟩ : ExtD)).toList else acc ++ [⟨i, b, 1⟩]
def prI (m : List Int) (i : Nat) : Int := if i = 0 then -1 else m.getD (i - 1) (-1)
def extAcc (m : List Int) : Nat → List ExtD
  | 0 => []
  | i + 1 => extStep (extAcc m i) i (prI m i) (m.getD i (-1))
def extP (m : List Int) : List ExtD := extAcc m m.length
theorem prI_succ (m : List Int) (p : Nat) : prI m (p + 1) = m.getD p (-1) := by unfold prI; rw [if_neg (by omega), Nat.add_sub_cancel]
theorem prI_zero (m : List Int) : prI m 0 = -1 := rfl
/-- The last extent ends where the last block stands. -/
structure AccI (m : List Int) (i : Nat) (acc : List ExtD) : Prop where
  yes : 0 ≤ prI m i → ∃ (ps : List ExtD) (e : ExtD), acc = ps ++ [e] ∧ e.a + e.l = (i : Int) ∧ e.b + e.l = prI m i + 1
  no : prI m i < 0 → ∀ (ps : List ExtD) (e : ExtD), acc = ps ++ [e] → e.a + e.l < (i : Int)
  len : acc.length ≤ i
  bd : ∀ e ∈ acc, 0 ≤ e.a ∧ e.a ≤ i ∧ 1 ≤ e.l ∧ e.l ≤ i ∧ -1 ≤ e.b ∧ e.b ≤ 23
theorem accI : ∀ (m : List Int) (_hm : ∀ x ∈ m, -1 ≤ x ∧ x ≤ 23) (i : Nat), i ≤ m.length → AccI m i (extAcc m i)
  | m, hm, 0, _ => ⟨fun h => by rw [prI_zero] at h; omega, fun _ ps e h => by simp [extAcc] at h, by simp [extAcc], fun e he => by simp [extAcc] at he⟩
  | m, hm, i + 1, hi => by
    have ih := accI m hm i (by omega)
    have hi' : i < m.length := by omega
    have hb := hm _ (List.getElem_mem hi')
    have hget : m.getD i (-1) = m[i] := by rw [List.getD_eq_getElem?_getD, List.getElem?_eq_getElem hi']; rfl
    rw [extAcc, hget]
    by_cases h1 : m[i] < 0
    · rw [extStep, if_pos h1]
      refine ⟨fun h => ?_, fun _ ps e he => ?_, by have := ih.len; omega, fun e he => by have := ih.bd e he; omega⟩
      · rw [prI_succ, hget] at h; omega
      · by_cases hp : 0 ≤ prI m i
        · obtain ⟨ps', e', h2, h3, h4⟩ := ih.yes hp
          rw [he] at h2
          obtain ⟨rfl, h2⟩ := List.append_inj' h2 rfl
          simp at h2; subst h2
          omega
        · have := ih.no (by omega) ps e he; omega
    · rw [extStep, if_neg h1]
      by_cases h2 : 0 ≤ prI m i ∧ m[i] = prI m i + 1
      · rw [if_pos h2]
        obtain ⟨ps, e, h3, h4, h5⟩ := ih.yes h2.1
        rw [h3]
        simp only [List.dropLast_concat, List.getLast?_concat, Option.map_some, Option.toList_some]
        refine ⟨fun h => ⟨ps, _, rfl, by simp; omega, by rw [prI_succ, hget]; simp; omega⟩, fun h => ?_, by have := ih.len; rw [h3] at this; simp at this ⊢; omega, fun x hx => ?_⟩
        · rw [prI_succ, hget] at h; omega
        · rcases List.mem_append.1 hx with hx | hx
          · have := ih.bd x (by rw [h3]; exact List.mem_append_left _ hx); omega
          · simp at hx; subst hx
            have := ih.bd e (by rw [h3]; simp); simp; omega
      · rw [if_neg h2]
        refine ⟨fun h => ⟨_, _, rfl, by simp, by rw [prI_succ, hget]⟩, fun h => ?_, by have := ih.len; simp; omega, fun x hx => ?_⟩
        · rw [prI_succ, hget] at h; omega
        · rcases List.mem_append.1 hx with hx | hx
          · have := ih.bd x hx; omega
          · simp at hx; subst hx
            simp; omega

/-- A block put into a map. -/
def putP (l : List ExtD) (i : Nat) (b : Int) : List ExtD :=
  if extsOkB l = false then [] else if 0 ≤ (flatP l).getD i (-1) ∨ b ∈ flatP l then l else extP ((flatP l).set i b)

end Go.Proofs.Ytajgenjfhcapjaa
