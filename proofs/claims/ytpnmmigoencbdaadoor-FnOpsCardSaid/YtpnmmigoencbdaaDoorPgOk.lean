/- Pages: right ones, found entries, of both sides. -/
import Derived.Test.YtpnmmigoencbdaaDoorPages
import Derived.BigQuiet
namespace Go.Proofs.YtpnmmigoencbdaaDoor
open Go Go.RowKit

theorem Tryd.el_ent : ElemOk Tryd.prog 32 60 (.agg #[.int .i64 0, .int .i64 0, .string ⟨#[]⟩, .int .i64 0]) 4 40 := ⟨Tryd.underlying32, by kernel_rfl, rfl, by omega⟩

/-- An entry stands behind a place; ahead of it. -/
def behB (e : EntD) (h i : Int) : Bool := decide (h < e.h) || (decide (e.h = h) && decide (i < e.i))
def lessB (e : EntD) (h i : Int) : Bool := decide (e.h < h) || (decide (e.h = h) && decide (e.i < i))
theorem less_beh (a b : EntD) : lessB a b.h b.i = behB b a.h a.i := by
  unfold lessB behB
  rw [show (decide (a.h = b.h)) = decide (b.h = a.h) from by simp [eq_comm]]

set_option maxHeartbeats 1000000 in
theorem isBehind_any (e : EntD) (x y : Int) (w : World) :
    Calls Tryd.prog 63 #[e.val, .int .i64 x, .int .i64 y] w fun r w' => r = .returned (.bool (behB e x y)) ∧ Below w.heap.size w w' := by
  obtain ⟨h, i, s, d⟩ := e
  simp only [EntD.val]
  by_cases h1 : x < h
  · have Hf := Lib.hid (show behB ⟨h, i, s, d⟩ x y = true by simp [behB, h1])
    go_enter Tryd.func63, Tryd.ntmps63
    go_wp2
    go_ret
    exact ⟨ret_bool Hf.out.symm, belA (bel0 w) _⟩
  · by_cases h2 : h = x
    · have h2' : (h == x) = true := by simp [h2]
      by_cases h3 : y < i
      · have Hf := Lib.hid (show behB ⟨h, i, s, d⟩ x y = true by simp [behB, h2, h3])
        clear h2
        go_enter Tryd.func63, Tryd.ntmps63
        go_wp2
        go_ret
        exact ⟨ret_bool Hf.out.symm, belA (bel0 w) _⟩
      · have Hf := Lib.hid (show behB ⟨h, i, s, d⟩ x y = false by simp [behB]; omega)
        clear h2
        go_enter Tryd.func63, Tryd.ntmps63
        go_wp2
        go_ret
        exact ⟨ret_bool Hf.out.symm, belA (bel0 w) _⟩
    · have h2' : (h == x) = false := by simp [h2]
      have Hf := Lib.hid (show behB ⟨h, i, s, d⟩ x y = false by simp [behB]; omega)
      clear h2
      go_enter Tryd.func63, Tryd.ntmps63
      go_wp2
      go_ret
      exact ⟨ret_bool Hf.out.symm, belA (bel0 w) _⟩

set_option maxHeartbeats 1000000 in
theorem l5Less_any (e : EntD) (x y : Int) (w : World) :
    Calls Tryd.prog 65 #[e.val, .int .i64 x, .int .i64 y] w fun r w' => r = .returned (.bool (lessB e x y)) ∧ Below w.heap.size w w' := by
  obtain ⟨h, i, s, d⟩ := e
  simp only [EntD.val]
  by_cases h1 : h < x
  · have Hf := Lib.hid (show lessB ⟨h, i, s, d⟩ x y = true by simp [lessB, h1])
    go_enter Tryd.func65, Tryd.ntmps65
    go_wp2
    go_ret
    exact ⟨ret_bool Hf.out.symm, belA (bel0 w) _⟩
  · by_cases h2 : h = x
    · have h2' : (h == x) = true := by simp [h2]
      by_cases h3 : i < y
      · have Hf := Lib.hid (show lessB ⟨h, i, s, d⟩ x y = true by simp [lessB, h2, h3])
        clear h2
        go_enter Tryd.func65, Tryd.ntmps65
        go_wp2
        go_ret
        exact ⟨ret_bool Hf.out.symm, belA (bel0 w) _⟩
      · have Hf := Lib.hid (show lessB ⟨h, i, s, d⟩ x y = false by simp [lessB]; omega)
        clear h2
        go_enter Tryd.func65, Tryd.ntmps65
        go_wp2
        go_ret
        exact ⟨ret_bool Hf.out.symm, belA (bel0 w) _⟩
    · have h2' : (h == x) = false := by simp [h2]
      have Hf := Lib.hid (show lessB ⟨h, i, s, d⟩ x y = false by simp [lessB]; omega)
      clear h2
      go_enter Tryd.func65, Tryd.ntmps65
      go_wp2
      go_ret
      exact ⟨ret_bool Hf.out.symm, belA (bel0 w) _⟩

/-- A page of so many is right. -/
def pgB (m : Nat) (l : List EntD) : Bool := inI l.length 1 4 && !(decide (1 < m) && decide (l.length < 2))
/-- Entries stand in order. -/
def Ord (l : List EntD) : Prop := ∀ (i : Nat) (h : i + 1 < l.length), behB l[i + 1] l[i].h l[i].i = true
def OkP (ps : List (List EntD)) : Prop := ps.length ≤ 8 ∧ (∀ l ∈ ps, pgB ps.length l = true) ∧ Ord ps.flatten
noncomputable def okPB (ps : List (List EntD)) : Bool := @decide (OkP ps) (Classical.propDecidable _)
theorem okPB_iff {ps : List (List EntD)} : okPB ps = true ↔ OkP ps := @decide_eq_true_iff _ (Classical.propDecidable _)
theorem okPB_true {ps : List (List EntD)} (h : OkP ps) : okPB ps = true := okPB_iff.2 h
theorem okPB_false {ps : List (List EntD)} (h : ¬ OkP ps) : okPB ps = false := by
  cases hb : okPB ps with
  | false => rfl
  | true => exact absurd (okPB_iff.1 hb) h
theorem flat_take_succ (ps : List (List EntD)) (j : Nat) (h : j < ps.length) : (ps.take (j + 1)).flatten = (ps.take j).flatten ++ ps[j] := by
  rw [List.take_succ_eq_append_getElem h, List.flatten_append]; simp
theorem flat_take_le (ps : List (List EntD)) (j : Nat) : (ps.take j).flatten.length ≤ ps.flatten.length := by
  conv => rhs; rw [← List.take_append_drop j ps, List.flatten_append, List.length_append]
  omega

/-- What the walk over the entries holds: the last one and whether there was none yet. -/
def Last (b : Bool) (L : EntD) (s : List EntD) : Prop := (b = true ∧ s = []) ∨ (b = false ∧ ∃ s', s = s' ++ [L])
theorem Ord.nil_ : Ord [] := fun i h => absurd h (by simp)
theorem Ord.snoc {s : List EntD} {x : EntD} {b : Bool} {L : EntD} (h : Ord s) (hl : Last b L s) (hx : b = false → behB x L.h L.i = true) : Ord (s ++ [x]) := by
  intro i hi
  rcases hl with ⟨rfl, rfl⟩ | ⟨rfl, s', rfl⟩
  · have : i + 1 < 1 := hi
    omega
  · by_cases h1 : i + 1 < (s' ++ [L]).length
    · have := h i h1
      rw [List.getElem_append_left h1, List.getElem_append_left (show i < (s' ++ [L]).length by omega)]
      exact this
    · have h2 : i = s'.length := by
        have z1 : (s' ++ [L] ++ [x]).length = s'.length + 2 := by simp
        have z2 : (s' ++ [L]).length = s'.length + 1 := by simp
        omega
      subst h2
      have e1 : (s' ++ [L] ++ [x])[s'.length + 1]'hi = x := by simp
      have e2 : (s' ++ [L] ++ [x])[s'.length]'(by simp) = L := by simp
      rw [e1, e2]
      exact hx rfl
theorem Ord.not {s r : List EntD} {x L : EntD} (hl : Last false L s) (hx : behB x L.h L.i = false) : ¬ Ord (s ++ x :: r) := by
  intro h
  rcases hl with ⟨h1, _⟩ | ⟨_, s', rfl⟩
  · cases h1
  · have h1 := h s'.length (by simp)
    have e1 : (s' ++ [L] ++ x :: r)[s'.length + 1]'(by simp) = x := by simp
    have e2 : (s' ++ [L] ++ x :: r)[s'.length]'(by simp) = L := by simp
    rw [e1, e2, hx] at h1
    cases h1
theorem Last.snoc (s : List EntD) (x : EntD) : Last false x (s ++ [x]) := .inr ⟨rfl, s, rfl⟩
theorem flat_at (ps : List (List EntD)) (j k : Nat) (hj : j < ps.length) (hk : k < ps[j].length) : ∃ r, ps.flatten = ((ps.take j).flatten ++ ps[j].take k) ++ ps[j][k] :: r := by
  refine ⟨ps[j].drop (k + 1) ++ (ps.drop (j + 1)).flatten, ?_⟩
  conv => lhs; rw [← List.take_append_drop j ps, List.flatten_append, List.drop_eq_getElem_cons hj, List.flatten_cons]
  have h0 : ps[j] = ps[j].take k ++ ps[j][k] :: ps[j].drop (k + 1) := by rw [← List.drop_eq_getElem_cons hk, List.take_append_drop]
  have h1 : ∀ r : List EntD, ps[j] ++ r = ps[j].take k ++ ps[j][k] :: (ps[j].drop (k + 1) ++ r) := fun r => (congrArg (· ++ r) h0).trans (by rw [List.append_assoc, List.cons_append])
  rw [h1, List.append_assoc]

/-- The entries of right pages. -/
noncomputable def pgL (ps : List (List EntD)) : List EntD := if okPB ps = true then ps.flatten else []
theorem pgL_yes {ps : List (List EntD)} (h : okPB ps = true) : pgL ps = ps.flatten := by unfold pgL; rw [if_pos h]
theorem pgL_no {ps : List (List EntD)} (h : okPB ps = false) : pgL ps = [] := by unfold pgL; rw [if_neg (by rw [h]; simp)]
theorem pgL_len (ps : List (List EntD)) : (pgL ps).length ≤ ps.flatten.length := by unfold pgL; split <;> simp

def isAt (x y : Int) (e : EntD) : Bool := e.h == x && e.i == y
/-- An entry of pages by its place. -/
noncomputable def fndP (ps : List (List EntD)) (x y : Int) : EntD × Bool := match (pgL ps).find? (isAt x y) with | some e => (e, true) | none => (⟨0, 0, ⟨#[]⟩, 0⟩, false)
theorem fndP_some {ps : List (List EntD)} {x y : Int} {e : EntD} (h : (pgL ps).find? (isAt x y) = some e) : fndP ps x y = (e, true) := by unfold fndP; rw [h]
theorem fndP_none {ps : List (List EntD)} {x y : Int} (h : (pgL ps).find? (isAt x y) = none) : fndP ps x y = (⟨0, 0, ⟨#[]⟩, 0⟩, false) := by unfold fndP; rw [h]
theorem find_hit {p : EntD → Bool} {a r : List EntD} {x : EntD} (h : a.find? p = none) (hx : p x = true) : (a ++ x :: r).find? p = some x := by rw [List.find?_append, h]; simp [hx]
theorem find_miss {p : EntD → Bool} {a : List EntD} {x : EntD} (h : a.find? p = none) (hx : p x = false) : (a ++ [x]).find? p = none := by rw [List.find?_append, h]; simp [hx]
theorem fnd_end {v : Value} {ps : List (List EntD)} {x y : Int} {e : EntD} {b : Bool} (h : fndP ps x y = (e, b)) (hv : v = .tuple #[.agg #[.int .i64 e.h, .int .i64 e.i, .string e.s, .int .i64 e.d], .bool b]) :
    Ending.returned v = .returned (.tuple #[.agg #[.int .i64 (fndP ps x y).1.h, .int .i64 (fndP ps x y).1.i, .string (fndP ps x y).1.s, .int .i64 (fndP ps x y).1.d], .bool (fndP ps x y).2]) := by rw [hv, h]

end Go.Proofs.YtpnmmigoencbdaaDoor
