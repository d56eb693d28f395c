/- A directory on pages answers as the row does. Plain. -/
import Derived.Test.YtbchbmcphbeikaaGreatDoorPgLaw
import Derived.Test.YtbchbmcphbeikaaGreatDoorPgP
import Derived.Test.YtbchbmcphbeikaaGreatDoorDirK
import Derived.Test.YtbchbmcphbeikaaGreatDoorLook
namespace Go.Proofs.YtbchbmcphbeikaaGreatDoor
open Go Go.RowKit

theorem ins_at {A B : List EntD} {e : EntD} (hp : (A ++ e :: B).Pairwise Rl) : insL e (A ++ B) = A ++ e :: B := by
  obtain ⟨_, h2, h3⟩ := List.pairwise_append.1 hp
  have hA : ∀ a ∈ A, behB e a.h a.i = true := fun a ha => h3 a ha e (by simp)
  have hB : ∀ b ∈ B, behB e b.h b.i = false := fun b hb => by
    have h1 := Rl_iff.1 ((List.pairwise_cons.1 h2).1 b hb)
    cases hq : behB e b.h b.i
    · rfl
    · have h4 := Rl_iff.1 (show Rl b e from hq)
      omega
  unfold insL
  rw [List.takeWhile_append_of_pos hA, List.dropWhile_append_of_pos hA]
  cases B with
  | nil => simp
  | cons b r =>
    have hb := hB b (by simp)
    rw [List.takeWhile_cons_of_neg (by rw [hb]; simp), List.dropWhile_cons_of_neg (by rw [hb]; simp)]
    simp

theorem flat_ge2 : ∀ (ps : List (List EntD)), (∀ l ∈ ps, 2 ≤ l.length) → 2 * ps.length ≤ ps.flatten.length
  | [], _ => by simp
  | l :: ps, h => by
    have h1 := flat_ge2 ps (fun x hx => h x (by simp [hx]))
    have h2 := h l (by simp)
    rw [List.flatten_cons, List.length_append, List.length_cons]
    omega

/-- The place of a new entry is free. -/
theorem new_free {ds : List EntD} (hd : dirOkB ds = true) (s : ByteArray) (id : Int) : ∀ x ∈ ds, ¬ (x.h = (newE ds s id).h ∧ x.i = (newE ds s id).i) := by
  have hix := ixL_bd hd (hashI s)
  have h := ixL_any hd (hashI s) (ixL (hashI s) ds) hix.1 (Int.le_refl _)
  rw [decide_eq_false (by omega), List.any_eq_false] at h
  intro x hx hh
  exact h x hx (by simp only [newE] at hh; simp [isPl, hh.1, hh.2])

theorem alike_self {s : ByteArray} (h : nameOkB s = true) : alikeB s s = true := by unfold alikeB; simp [h]

/-- What is put is found. -/
theorem look_new {ds : List EntD} {s : ByteArray} {id : Int} (hd : dirOkB ds = true) (hc : nameOkB s = true ∧ ds.find? (isN s) = none ∧ inI id 1 100000 = true ∧ ds.length ≠ 12) :
    lookP (insL (newE ds s id) ds) s = (newE ds s id, true) := by
  have hok : dirOkB (insL (newE ds s id) ds) = true := by have := addP_ok hd s id; rw [addP_yes hd hc] at this; exact this
  refine lookP_some hok ?_
  have hno : ∀ x ∈ ds, ¬ alikeB x.s s = true := fun x hx => List.find?_eq_none.1 hc.2.1 x hx
  unfold insL
  rw [List.find?_append, List.find?_eq_none.2 (fun x hx => hno x ((List.takeWhile_sublist _).subset hx)), Option.none_or, List.find?_cons_of_pos]
  exact alike_self hc.1

/-- An entry more, on pages as in a row. -/
theorem dpAdd_plain {ps : List (List EntD)} {s : ByteArray} {id : Int} (hok : okPB ps = true) (hd : dirOkB (pgL ps) = true) :
    ∃ ps', addPg ps (newE (pgL ps) s id) = (ps', true) ∧ okPB ps' = true ∧ pgL ps' = insL (newE (pgL ps) s id) (pgL ps) := by
  have hO := okPB_iff.1 hok
  have hg := pgL_yes hok
  have hne := new_free hd s id
  obtain ⟨E, hE⟩ : ∃ E, newE (pgL ps) s id = E := ⟨_, rfl⟩
  rw [hE] at hne ⊢
  rw [hg] at hne
  have h12 : ps.flatten.length ≤ 12 := by have := (dirOk_pw.1 hd).1; rw [hg] at this; exact this
  have hf : (fndP ps E.h E.i).2 = false := by
    rw [fndP_none]
    rw [hg, List.find?_eq_none]
    intro x hx h
    exact hne x hx (isAt_iff.1 h)
  by_cases h0 : ps.length = 0
  · have he : ps = [] := List.length_eq_zero_iff.1 h0
    refine ⟨[[E]], addPg_nil hf h0, ?_, ?_⟩
    · exact okPB_true ⟨by simp, fun l hl => by rw [List.mem_singleton] at hl; subst hl; exact pgB_iff.2 (by simp), pw_Ord (by simp)⟩
    · rw [hg, he, pgL_yes (okPB_true ⟨by simp, fun l hl => by rw [List.mem_singleton] at hl; subst hl; exact pgB_iff.2 (by simp), pw_Ord (by simp)⟩)]
      simp [insL]
  · have h8 : ¬ 8 < (partP ps (kAt E ps ps.length) (putE E (ps.getD (kAt E ps ps.length) []))).length := by
      intro h8
      have h1 := hO.1
      have hp : ps.length = 8 := by
        unfold partP at h8
        split at h8
        · rw [List.length_append, List.length_cons, List.length_cons, List.length_take, List.length_drop] at h8
          have := kAt_lt E ps ps.length (by omega)
          omega
        · rw [List.length_set] at h8; omega
      have h2 := flat_ge2 ps (fun l hl => (pgB_iff.1 (hO.2.1 l hl)).2.2 (by omega))
      omega
    obtain ⟨A, B, hA, hAB, hpw⟩ := add_flat hO h0 hne
    have hok' := okPB_true (add_ok hO h0 hne h8)
    refine ⟨_, addPg_yes hf h0 rfl rfl h8, hok', ?_⟩
    rw [pgL_yes hok', hAB, hg, hA, ins_at hpw]

/-- An entry less, on pages as in a row. -/
theorem dpDrop_plain {ps ps' : List (List EntD)} {s : ByteArray} {E : EntD} {b : Bool} (hok : okPB ps = true) (hd : dirOkB (pgL ps) = true) (hf : (pgL ps).find? (isN s) = some E) (hD : DropP ps E.h E.i ps' b) :
    b = true ∧ okPB ps' = true ∧ dropP (pgL ps) s = (pgL ps', true) := by
  have hO := okPB_iff.1 hok
  have hg := pgL_yes hok
  have hE : E ∈ ps.flatten := by rw [← hg]; exact List.mem_of_find?_eq_some hf
  rcases hD with ⟨_, _, hno⟩ | ⟨rfl, k, a, hk, ha, hat, rfl⟩
  · obtain ⟨l, hl, hel⟩ := List.mem_flatten.1 hE
    have := hno l hl E hel
    rw [isAt_iff.2 ⟨rfl, rfl⟩] at this
    cases this
  · obtain ⟨hok', A, B, hF, hF'⟩ := drop_ok hO hk ha
    have hok2 := okPB_true hok'
    have hz : ps[k][a] = E := key_one (Ord_pw hO.2.2) (by rw [hF]; simp) hE (isAt_iff.1 hat)
    refine ⟨rfl, hok2, ?_⟩
    rw [pgL_yes hok2, hF']
    have hfl : pgL ps = A ++ E :: B := by rw [hg, hF, hz]
    have hk2 : A.length < (pgL ps).length := by rw [hfl]; simp
    have hget : (pgL ps)[A.length] = E := by simp only [hfl]; rw [List.getElem_append_right (Nat.le_refl _)]; simp
    rw [dropP_yes hd hk2 (by rw [hf, hget])]
    rw [hfl]
    simp

end Go.Proofs.YtbchbmcphbeikaaGreatDoor
