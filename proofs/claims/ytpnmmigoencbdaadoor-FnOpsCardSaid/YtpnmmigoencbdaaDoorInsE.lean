/- Go's slices.Insert and slices.Delete on rows of entries of a call's own. -/
import Derived.Test.YtpnmmigoencbdaaDoorRowOps
import Derived.Test.YtpnmmigoencbdaaDoorPgOk
import Derived.Deep.RegionLaw
import Derived.Laws.Externs
namespace Go.Proofs.YtpnmmigoencbdaaDoor
open Go Go.RowKit

theorem ES_take : ∀ (l : List EntD) (k : Nat), (ES l).take (k * 4) = ES (l.take k)
  | [], k => by simp [ES]
  | e :: l, 0 => by simp [ES]
  | e :: l, k + 1 => by
    rw [ES_cons, show (k + 1) * 4 = k * 4 + 1 + 1 + 1 + 1 by omega, List.take_succ_cons, List.take_succ_cons, List.take_succ_cons, List.take_succ_cons, ES_take l k, List.take_succ_cons, ES_cons]
theorem ES_drop : ∀ (l : List EntD) (k : Nat), (ES l).drop (k * 4) = ES (l.drop k)
  | [], k => by simp [ES]
  | e :: l, 0 => by simp
  | e :: l, k + 1 => by
    rw [ES_cons, show (k + 1) * 4 = k * 4 + 1 + 1 + 1 + 1 by omega, List.drop_succ_cons, List.drop_succ_cons, List.drop_succ_cons, List.drop_succ_cons, ES_drop l k, List.drop_succ_cons]
theorem ES_mid (a b : List EntD) (x : EntD) : ES a ++ x.cells ++ ES b = ES (a ++ x :: b) := by
  rw [ES_append, ES_cons]; simp [EntD.cells]
theorem own_src {w : World} {base size g n c : Nat} {e : TypeId} {xs : List Value} (h : w.ownsRow base e size (.slice (some ⟨g, 0, none⟩) n c) n xs) (o : Nat) : ∀ j v, (xs.drop o)[j]? = some v → w.cell? ((⟨g, o, none⟩ : Addr).add j) = some v := fun j v hv => by
  have ha : (⟨g, o, none⟩ : Addr).add j = ⟨g, o + j, none⟩ := by unfold Addr.add; split <;> simp_all
  rw [List.getElem?_drop] at hv
  have hlt := (List.getElem?_eq_some_iff.1 hv).1
  rw [ha, h.cellAt (o + j) (by have := h.1; omega), hv]
theorem blk_src {w : World} {g : Nat} {t : TypeId} {cs : Array Value} (h : Blk w g t cs) : ∀ j v, cs.toList[j]? = some v → w.cell? ((⟨g, 0, none⟩ : Addr).add j) = some v := fun j v hv => by
  have ha : (⟨g, 0, none⟩ : Addr).add j = ⟨g, j, none⟩ := by unfold Addr.add; split <;> simp_all
  rw [ha, h.cell]
  simpa using hv
theorem splice_ins {α : Type} (T zs x D : List α) (a : Nat) (hT : T.length = a) (hx : x.length = 4) (hz : zs.length = 4 + D.length) :
    ((T ++ zs).take a ++ x ++ (T ++ zs).drop (a + x.length)).take (a + 4) ++ D ++ ((T ++ zs).take a ++ x ++ (T ++ zs).drop (a + x.length)).drop (a + 4 + D.length) = T ++ x ++ D := by
  have e1 : (T ++ zs).take a = T := by subst hT; simp
  have e2 : (T ++ zs).drop (a + x.length) = zs.drop 4 := by subst hT; rw [hx, List.drop_append]; simp
  rw [e1, e2]
  have e3 : (T ++ x ++ zs.drop 4).take (a + 4) = T ++ x := List.take_left' (by simp; omega)
  have e4 : (T ++ x ++ zs.drop 4).drop (a + 4 + D.length) = [] := List.drop_eq_nil_of_le (by simp; omega)
  rw [e3, e4, List.append_nil]
theorem splice_shift {α : Type} (T js x D : List α) (a : Nat) (hT : T.length = a) (hx : x.length = 4) (hz : js.length = 4) :
    ((T ++ D ++ js).take (a + 4) ++ D ++ (T ++ D ++ js).drop (a + 4 + D.length)).take a ++ x ++ ((T ++ D ++ js).take (a + 4) ++ D ++ (T ++ D ++ js).drop (a + 4 + D.length)).drop (a + x.length) = T ++ x ++ D := by
  have e1 : (T ++ D ++ js).drop (a + 4 + D.length) = [] := List.drop_eq_nil_of_le (by simp; omega)
  rw [e1, List.append_nil]
  have hl : ((T ++ D ++ js).take (a + 4)).length = a + 4 := by simp; omega
  have e2 : ((T ++ D ++ js).take (a + 4) ++ D).take a = T := by
    rw [List.take_append_of_le_length (by omega), List.take_take, Nat.min_eq_left (by omega), List.append_assoc]
    subst hT; simp
  have e3 : ((T ++ D ++ js).take (a + 4) ++ D).drop (a + x.length) = D := by rw [hx]; exact List.drop_left' hl
  rw [e2, e3]

theorem own_setCells {base size n g c : Nat} {e : TypeId} : ∀ (vs : List Value) (o : Nat) {w : World} {xs : List Value}, w.ownsRow base e size (.slice (some ⟨g, 0, none⟩) n c) n xs → o + vs.length ≤ n * size →
    (w.setCells g o vs).ownsRow base e size (.slice (some ⟨g, 0, none⟩) n c) n (xs.take o ++ vs ++ xs.drop (o + vs.length)) ∧ w.grownBy (w.setCells g o vs) (some g)
  | [], o, w, xs, h, _ => ⟨by simpa [World.setCells] using h, grown_refl _ _⟩
  | v :: r, o, w, xs, h, hf => by
    have hl : o + (r.length + 1) ≤ xs.length := by have := h.1; simp at hf; omega
    obtain ⟨h1, h2⟩ := own_setCells r (o + 1) (own_set h o v) (by simp at hf; omega)
    refine ⟨?_, ?_⟩
    · rw [World.setCells]
      have e := list_seg_step xs o v r hl
      rw [e] at h1
      simpa using h1
    · rw [World.setCells]
      have g1 : w.grownBy (w.setCell ⟨g, o, none⟩ v) (some g) := only_sc (grown_refl _ _) o v
      exact ⟨h2.os.trans g1.os, h2.tape.trans g1.tape, h2.output.trans g1.output, Nat.le_trans g1.size h2.size, fun k hk hne => (h2.block k (Nat.lt_of_lt_of_le hk g1.size) hne).trans (g1.block k hk hne)⟩

end Go.Proofs.YtpnmmigoencbdaaDoor
