/- What was put on pages and not taken away is what stands on them: the steps of the law. Plain Lean. -/
import Derived.Test.YtlnjgpekgnkakaaPgLaw2
namespace Go.Proofs.Ytlnjgpekgnkakaa
open Go Go.RowKit

def keyB (x y : Int) (e : EntD) : Prop := e.h = x ∧ e.i = y
theorem isAt_iff {x y : Int} {e : EntD} : isAt x y e = true ↔ keyB x y e := by unfold isAt keyB; simp
theorem isAt_no {x y : Int} {e : EntD} (h : isAt x y e = false) : ¬ keyB x y e := fun h' => by rw [isAt_iff.2 h'] at h; cases h
theorem key_one {F : List EntD} (hp : F.Pairwise Rl) {a b : EntD} (ha : a ∈ F) (hb : b ∈ F) (h : a.h = b.h ∧ a.i = b.i) : a = b := by
  obtain ⟨i, hi, rfl⟩ := List.mem_iff_getElem.1 ha
  obtain ⟨j, hj, rfl⟩ := List.mem_iff_getElem.1 hb
  have hpw := List.pairwise_iff_getElem.1 hp
  rcases Nat.lt_trichotomy i j with hlt | rfl | hlt
  · have := Rl_iff.1 (hpw i j hi hj hlt); omega
  · rfl
  · have := Rl_iff.1 (hpw j i hj hi hlt); omega
theorem fnd_mem {ps : List (List EntD)} (hok : OkP ps) {e : EntD} (he : e ∈ ps.flatten) : fndP ps e.h e.i = (e, true) := by
  have hg : pgL ps = ps.flatten := pgL_yes (okPB_iff.2 hok)
  cases hf : ps.flatten.find? (isAt e.h e.i) with
  | none =>
    have := List.find?_eq_none.1 hf e he
    exact absurd (isAt_iff.2 ⟨rfl, rfl⟩) this
  | some x =>
    have hx := isAt_iff.1 (List.find?_some hf)
    have : x = e := key_one (Ord_pw hok.2.2) (List.mem_of_find?_eq_some hf) he hx
    subst this
    exact fndP_some (by rw [hg]; exact hf)
theorem fnd_no {ps : List (List EntD)} (hok : OkP ps) {x y : Int} (h : (fndP ps x y).2 = false) : ∀ e ∈ ps.flatten, ¬ keyB x y e := by
  intro e he hk
  have := fnd_mem hok he
  rw [hk.1, hk.2] at this
  rw [this] at h
  cases h
theorem fnd_yes {ps : List (List EntD)} (hok : OkP ps) {x y : Int} (h : (fndP ps x y).2 = true) : ∃ e ∈ ps.flatten, keyB x y e := by
  have hg : pgL ps = ps.flatten := pgL_yes (okPB_iff.2 hok)
  cases hf : ps.flatten.find? (isAt x y) with
  | none => rw [fndP_none (by rw [hg]; exact hf)] at h; cases h
  | some e => exact ⟨e, List.mem_of_find?_eq_some hf, isAt_iff.1 (List.find?_some hf)⟩
/-- What is wanted stands on the pages. -/
def Inv (ps : List (List EntD)) (W : List EntD) : Prop := OkP ps ∧ W.Perm ps.flatten
theorem inv_nil : Inv [] [] := ⟨⟨by simp, fun l h => absurd h (List.not_mem_nil), pw_Ord .nil⟩, .nil⟩
theorem inv_len {ps : List (List EntD)} {W : List EntD} (h : Inv ps W) : W.length = ps.flatten.length := h.2.length_eq
/-- An entry is taken away. -/
theorem inv_drop {ps ps' : List (List EntD)} {W : List EntD} {x y : Int} {b : Bool} (h : Inv ps W) (hd : DropP ps x y ps' b) :
    (b = false ∧ ps' = ps ∧ ∀ e ∈ W, ¬ keyB x y e) ∨ (b = true ∧ (∃ e ∈ W, keyB x y e) ∧ ∀ (i : Nat) (hi : i < W.length), keyB x y W[i] → Inv ps' (W.take i ++ W.drop (i + 1))) := by
  rcases hd with ⟨rfl, rfl, hno⟩ | ⟨rfl, k, a, hk, ha, hat, rfl⟩
  · refine .inl ⟨rfl, rfl, fun e he => ?_⟩
    obtain ⟨l, hl, hel⟩ := List.mem_flatten.1 ((h.2.mem_iff).1 he)
    exact isAt_no (hno l hl e hel)
  · obtain ⟨hok', A, B, hF, hF'⟩ := drop_ok h.1 hk ha
    have hkey := isAt_iff.1 hat
    generalize ps[k][a] = z at *
    have hz : z ∈ ps.flatten := by rw [hF]; simp
    refine .inr ⟨rfl, ⟨z, (h.2.mem_iff).2 hz, hkey⟩, fun i hi hki => ⟨hok', ?_⟩⟩
    have hWz : W[i] = z := key_one (Ord_pw h.1.2.2) ((h.2.mem_iff).1 (List.getElem_mem hi)) hz ⟨hki.1.trans hkey.1.symm, hki.2.trans hkey.2.symm⟩
    have h1 : W.Perm (W[i] :: (W.take i ++ W.drop (i + 1))) := by
      have h2 : W = W.take i ++ W[i] :: W.drop (i + 1) := by rw [← List.drop_eq_getElem_cons hi, List.take_append_drop]
      exact (List.Perm.of_eq h2).trans List.perm_middle
    have h3 : (A ++ z :: B).Perm (z :: (A ++ B)) := List.perm_middle
    have h4 : (z :: (W.take i ++ W.drop (i + 1))).Perm (z :: (A ++ B)) := by
      rw [← hWz]
      refine h1.symm.trans (h.2.trans ?_)
      rw [hF, hWz]; exact h3
    rw [hF']
    exact h4.cons_inv
/-- An entry is put on them. -/
theorem inv_add {ps ps' : List (List EntD)} {W : List EntD} {e : EntD} {b : Bool} (h : Inv ps W) (ha : addPg ps e = (ps', b)) :
    (b = true ∧ (∀ x ∈ W, ¬ keyB e.h e.i x) ∧ Inv ps' (W ++ [e])) ∨ (b = false ∧ ps' = ps ∧ ((∀ x ∈ W, ¬ keyB e.h e.i x) → ¬ ps.length < 8)) := by
  cases hf : (fndP ps e.h e.i).2 with
  | true =>
    rw [addPg_found hf] at ha
    injection ha with h1 h2
    subst h1 h2
    refine .inr ⟨rfl, rfl, fun hno => ?_⟩
    obtain ⟨x, hx, hk⟩ := fnd_yes h.1 hf
    exact absurd hk (hno x ((h.2.mem_iff).2 hx))
  | false =>
    have hno := fnd_no h.1 hf
    have hnoW : ∀ x ∈ W, ¬ keyB e.h e.i x := fun x hx => hno x ((h.2.mem_iff).1 hx)
    by_cases h0 : ps.length = 0
    · rw [addPg_nil hf h0] at ha
      injection ha with h1 h2
      subst h1 h2
      have hp : ps = [] := List.eq_nil_of_length_eq_zero h0
      subst hp
      have hW : W = [] := List.Perm.eq_nil h.2
      subst hW
      exact .inl ⟨rfl, hnoW, ⟨by simp, fun l hl => by rw [List.mem_singleton] at hl; subst hl; exact pgB_iff.2 (by simp), pw_Ord (by simp)⟩, by simp⟩
    · by_cases h8 : 8 < (partP ps (kAt e ps ps.length) (putE e (ps.getD (kAt e ps ps.length) []))).length
      · rw [addPg_full hf h0 rfl rfl h8] at ha
        injection ha with h1 h2
        subst h1 h2
        refine .inr ⟨rfl, rfl, fun _ => ?_⟩
        have hk := kAt_lt e ps ps.length (by omega)
        unfold partP at h8
        split at h8
        · rw [List.length_append, List.length_cons, List.length_cons, List.length_take, List.length_drop] at h8
          omega
        · rw [List.length_set] at h8; omega
      · rw [addPg_yes hf h0 rfl rfl h8] at ha
        injection ha with h1 h2
        subst h1 h2
        obtain ⟨A, B, hF, hF', _⟩ := add_flat h.1 h0 hno
        refine .inl ⟨rfl, hnoW, add_ok h.1 h0 hno h8, ?_⟩
        rw [hF']
        have h3 : (W ++ [e]).Perm (e :: W) := List.perm_append_comm (l₁ := W) (l₂ := [e])
        refine h3.trans (((List.perm_cons e).2 h.2).trans ?_)
        rw [hF]
        exact List.perm_middle.symm
/-- Where an entry stands among the wanted: the last place. -/
def HereR (W : List EntD) (x y : Int) (j : Nat) (r : Int) : Prop := (r = -1 ∧ ∀ (i : Nat) (h : i < W.length), i < j → ¬ keyB x y W[i]) ∨ ∃ i, ∃ h : i < W.length, r = (i : Int) ∧ keyB x y W[i]
theorem here_no {W : List EntD} {x y : Int} {r : Int} (h : HereR W x y W.length r) (hr : r < 0) : ∀ e ∈ W, ¬ keyB x y e := by
  intro e he
  obtain ⟨i, hi, rfl⟩ := List.mem_iff_getElem.1 he
  rcases h with ⟨_, h⟩ | ⟨k, hk, rfl, _⟩
  · exact h i hi hi
  · omega
theorem here_yes {W : List EntD} {x y : Int} {j : Nat} {r : Int} (h : HereR W x y j r) (hr : ¬ r < 0) : ∃ i, ∃ h : i < W.length, r = (i : Int) ∧ keyB x y W[i] := by
  rcases h with ⟨rfl, _⟩ | h
  · omega
  · exact h

end Go.Proofs.Ytlnjgpekgnkakaa
