/- What pages are behind one entry more. Plain Lean. -/
import Derived.Test.YtbchbmcphbeikaaGreatDoorPgOk
namespace Go.Proofs.YtbchbmcphbeikaaGreatDoor
open Go Go.RowKit

def zE : EntD := ⟨0, 0, ⟨#[]⟩, 0⟩
def fstE (l : List EntD) : EntD := l.getD 0 zE
/-- The page that an entry belongs to. -/
def kAt (e : EntD) (ps : List (List EntD)) : Nat → Nat
  | 0 => 0
  | j + 1 => cond (behB e (fstE (ps.getD j [])).h (fstE (ps.getD j [])).i) j (kAt e ps j)
/-- Its place in the page. -/
def atL (e : EntD) : List EntD → Nat
  | [] => 0
  | x :: r => cond (behB e x.h x.i) (atL e r + 1) 0
def putE (e : EntD) (l : List EntD) : List EntD := l.take (atL e l) ++ e :: l.drop (atL e l)
/-- A page with too much in it is parted. -/
def partP (ps : List (List EntD)) (k : Nat) (l : List EntD) : List (List EntD) :=
  if 4 < l.length then ps.take k ++ l.take 3 :: l.drop 3 :: ps.drop (k + 1) else ps.set k l
noncomputable def addPg (ps : List (List EntD)) (e : EntD) : List (List EntD) × Bool :=
  if (fndP ps e.h e.i).2 then (ps, false) else
  if ps.length = 0 then ([[e]], true) else
  if 8 < (partP ps (kAt e ps ps.length) (putE e (ps.getD (kAt e ps ps.length) []))).length then (ps, false) else (partP ps (kAt e ps ps.length) (putE e (ps.getD (kAt e ps ps.length) [])), true)
theorem kAt_lt (e : EntD) (ps : List (List EntD)) : ∀ j, 0 < j → kAt e ps j < j
  | 0, h => by omega
  | j + 1, _ => by
    rw [kAt]
    cases behB e (fstE (ps.getD j [])).h (fstE (ps.getD j [])).i with
    | true => exact Nat.lt_succ_self _
    | false =>
      rcases Nat.eq_zero_or_pos j with rfl | h
      · exact Nat.lt_succ_self _
      · exact Nat.lt_succ_of_lt (kAt_lt e ps j h)
theorem atL_le (e : EntD) : ∀ l : List EntD, atL e l ≤ l.length
  | [] => Nat.le_refl _
  | x :: r => by
    rw [atL]
    cases behB e x.h x.i with
    | true => exact Nat.succ_le_succ (atL_le e r)
    | false => exact Nat.zero_le _
/-- Those ahead of the place are passed; the one at the place is not. -/
theorem atL_is (e : EntD) : ∀ (l : List EntD) (j : Nat), j ≤ l.length → (∀ (i : Nat) (h : i < l.length), i < j → behB e l[i].h l[i].i = true) → (∀ (h : j < l.length), behB e l[j].h l[j].i = false) → atL e l = j
  | [], j, h, _, _ => by simp at h; subst h; rfl
  | x :: r, 0, _, _, h2 => by
    have := h2 (by simp)
    rw [atL]
    simp only [List.getElem_cons_zero] at this
    rw [this]; rfl
  | x :: r, j + 1, h, h1, h2 => by
    have h0 := h1 0 (by simp) (by omega)
    simp only [List.getElem_cons_zero] at h0
    rw [atL, h0]
    show atL e r + 1 = j + 1
    rw [atL_is e r j (by simpa using h) (fun i hi hij => by have := h1 (i + 1) (by simpa using hi) (by omega); simpa using this) (fun hj => by have := h2 (by simpa using hj); simpa using this)]
theorem putE_len (e : EntD) (l : List EntD) : (putE e l).length = l.length + 1 := by
  have := atL_le e l
  unfold putE
  rw [List.length_append, List.length_cons, List.length_take, List.length_drop]
  omega
theorem addPg_found {ps : List (List EntD)} {e : EntD} (h : (fndP ps e.h e.i).2 = true) : addPg ps e = (ps, false) := by unfold addPg; rw [if_pos h]
theorem addPg_nil {ps : List (List EntD)} {e : EntD} (h : (fndP ps e.h e.i).2 = false) (h0 : ps.length = 0) : addPg ps e = ([[e]], true) := by unfold addPg; rw [if_neg (by rw [h]; simp), if_pos h0]
theorem addPg_full {ps : List (List EntD)} {e : EntD} {k : Nat} {l : List EntD} (h : (fndP ps e.h e.i).2 = false) (h0 : ps.length ≠ 0) (hk : kAt e ps ps.length = k) (hl : putE e (ps.getD k []) = l) (h8 : 8 < (partP ps k l).length) : addPg ps e = (ps, false) := by
  subst hk hl; unfold addPg; rw [if_neg (by rw [h]; simp), if_neg h0, if_pos h8]
theorem addPg_yes {ps : List (List EntD)} {e : EntD} {k : Nat} {l : List EntD} (h : (fndP ps e.h e.i).2 = false) (h0 : ps.length ≠ 0) (hk : kAt e ps ps.length = k) (hl : putE e (ps.getD k []) = l) (h8 : ¬ 8 < (partP ps k l).length) : addPg ps e = (partP ps k l, true) := by
  subst hk hl; unfold addPg; rw [if_neg (by rw [h]; simp), if_neg h0, if_neg h8]

end Go.Proofs.YtbchbmcphbeikaaGreatDoor
