/- Pages of entries: copies, sizes, equality; whether they are right, in both packages. -/
import Derived.Test.YtbchbmcphbeikaaGreatDoorEnts
namespace Go.Proofs.YtbchbmcphbeikaaGreatDoor
open Go Go.RowKit

/-- Pages as they lie in memory. -/
def PagesAt (w : World) (B : Nat) (A : Option Addr) (n : Nat) (ps : List (List EntD)) : Prop :=
  ∃ vs, Reads w B 1 A n vs ∧ ps.length = n ∧ ∀ (i : Nat) (hi : i < ps.length), ∃ A' c, vs[i]? = some (.slice A' ps[i].length c) ∧ Reads w B 4 A' ps[i].length (ES ps[i])
theorem PagesAt.len {w : World} {B : Nat} {A : Option Addr} {n : Nat} {ps : List (List EntD)} (h : PagesAt w B A n ps) : ps.length = n := by obtain ⟨_, _, h, _⟩ := h; exact h
theorem PagesAt.below {w w' : World} {B : Nat} {A : Option Addr} {n : Nat} {ps : List (List EntD)} (h : PagesAt w B A n ps) (hb : Below B w w') : PagesAt w' B A n ps := by
  obtain ⟨vs, h1, h2, h3⟩ := h
  refine ⟨vs, h1.below hb, h2, fun i hi => ?_⟩
  obtain ⟨A', c, h4, h5⟩ := h3 i hi
  exact ⟨A', c, h4, h5.below hb⟩
theorem PagesAt.more {w : World} {B B' : Nat} {A : Option Addr} {n : Nat} {ps : List (List EntD)} (h : PagesAt w B A n ps) (hB : B ≤ B') : PagesAt w B' A n ps := by
  obtain ⟨vs, h1, h2, h3⟩ := h
  refine ⟨vs, h1.more hB, h2, fun i hi => ?_⟩
  obtain ⟨A', c, h4, h5⟩ := h3 i hi
  exact ⟨A', c, h4, h5.more hB⟩
theorem PagesAt.at_ {w : World} {B : Nat} {A : Option Addr} {n : Nat} {ps : List (List EntD)} (h : PagesAt w B A n ps) {k : Nat} (hk : k < n) :
    ∃ (hk' : k < ps.length) (b o : Nat) (A' : Option Addr) (c : Nat), A = some ⟨b, o, none⟩ ∧ b < B ∧ w.cell? ⟨b, o + k, none⟩ = some (.slice A' ps[k].length c) ∧ Reads w B 4 A' ps[k].length (ES ps[k]) := by
  obtain ⟨vs, h1, h2, h3⟩ := h
  have hk' : k < ps.length := by omega
  obtain ⟨A', c, h4, h5⟩ := h3 k hk'
  obtain ⟨ad, u, rfl, hb, hu, hc⟩ := h1.at_ hk
  obtain ⟨ad0, u0, e0, _, _, hc0⟩ := h1.at_ (k := 0) (by omega)
  injection e0 with e0
  subst e0
  have ha0 : ad.add 0 = ad := by simp [Addr.add]
  rw [ha0] at hc0
  obtain ⟨b, o, rfl⟩ := flat_addr hc0
  have ha : ∀ j, (Addr.add ⟨b, o, none⟩ j) = ⟨b, o + j, none⟩ := fun j => by unfold Addr.add; split <;> simp_all
  rw [ha] at hc
  rw [h4] at hu
  injection hu with hu
  exact ⟨hk', b, o, A', c, rfl, hb, by rw [hu]; exact hc, h5⟩

/-- How much pages have of the size. -/
def szSS (ps : List (List EntD)) : Nat := ps.length + (ps.map szS).sum
theorem szS_len (l : List EntD) : l.length ≤ szS l := by unfold szS; omega
theorem sum_mem {α : Type} (f : α → Nat) : ∀ (l : List α) (x : α), x ∈ l → f x ≤ (l.map f).sum
  | a :: l, x, h => by
    rcases List.mem_cons.1 h with rfl | h
    · simp
    · have := sum_mem f l x h
      simp; omega
theorem szSS_row (ps : List (List EntD)) (l : List EntD) (h : l ∈ ps) : szS l ≤ szSS ps := by have := sum_mem szS ps l h; unfold szSS; omega
theorem szSS_flat (ps : List (List EntD)) : ps.flatten.length ≤ szSS ps := by
  unfold szSS
  induction ps with
  | nil => simp
  | cons l ps ih => have := szS_len l; simp at ih ⊢; omega

def rowVals (gs : List Nat) (ps : List (List EntD)) : List Value := List.zipWith (fun g l => Value.slice (some ⟨g, 0, none⟩) l.length l.length) gs ps
def RowsOwn (w : World) (lo : Nat) (e : TypeId) (gs : List Nat) (ps : List (List EntD)) : Prop :=
  gs.length = ps.length ∧ gs.Pairwise (· < ·) ∧ ∀ (i g : Nat) (l : List EntD), gs[i]? = some g → ps[i]? = some l → w.ownsRow lo e 4 (.slice (some ⟨g, 0, none⟩) l.length l.length) l.length (ES l)
theorem rowVals_append (gs : List Nat) (ps : List (List EntD)) (g : Nat) (l : List EntD) (h : gs.length = ps.length) : rowVals (gs ++ [g]) (ps ++ [l]) = rowVals gs ps ++ [.slice (some ⟨g, 0, none⟩) l.length l.length] := by
  unfold rowVals; rw [List.zipWith_append h]; rfl
theorem rowVals_len (gs : List Nat) (ps : List (List EntD)) (h : gs.length = ps.length) : (rowVals gs ps).length = ps.length := by unfold rowVals; simp [h]
theorem own_lt {w : World} {base : Nat} {e : TypeId} {size n g c : Nat} {xs : List Value} (h : w.ownsRow base e size (.slice (some ⟨g, 0, none⟩) n c) n xs) : base ≤ g ∧ g < w.heap.size := by
  obtain ⟨hb, cur, hg, _⟩ := own_some h
  exact ⟨hb, (Array.getElem?_eq_some_iff.1 hg).1⟩
theorem own_same {w w' : World} {base : Nat} {e : TypeId} {size n g c : Nat} {xs : List Value} (h : w.ownsRow base e size (.slice (some ⟨g, 0, none⟩) n c) n xs) (hg : w'.heap[g]? = w.heap[g]?) : w'.ownsRow base e size (.slice (some ⟨g, 0, none⟩) n c) n xs := by
  obtain ⟨hb, cur, hh, hn, hc, hs, ht⟩ := own_some h
  exact ⟨h.1, .inr ⟨g, c, cur, rfl, hb, hg.trans hh, hn, hc, hs, ht⟩⟩
theorem RowsOwn.nil_ (w : World) (lo : Nat) (e : TypeId) : RowsOwn w lo e [] [] := ⟨rfl, .nil, fun i g l h => by simp at h⟩
theorem RowsOwn.below {w w' : World} {lo : Nat} {e : TypeId} {gs : List Nat} {ps : List (List EntD)} (h : RowsOwn w lo e gs ps) (hb : Below w.heap.size w w') : RowsOwn w' lo e gs ps :=
  ⟨h.1, h.2.1, fun i g l h1 h2 => own_below (h.2.2 i g l h1 h2) hb (Nat.le_refl _)⟩
theorem RowsOwn.far {w : World} {lo : Nat} {e : TypeId} {gs : List Nat} {ps : List (List EntD)} (h : RowsOwn w lo e gs ps) (g k : Nat) (hg : g < lo) (u : Value) : RowsOwn (w.setCell ⟨g, k, none⟩ u) lo e gs ps :=
  ⟨h.1, h.2.1, fun i g' l h1 h2 => own_same (h.2.2 i g' l h1 h2) (Below.heap_setCell w ⟨g, k, none⟩ u g' (by
    have := (own_lt (h.2.2 i g' l h1 h2)).1
    show g' ≠ g
    omega))⟩
theorem RowsOwn.snoc {w : World} {lo : Nat} {e : TypeId} {gs : List Nat} {ps : List (List EntD)} {B g : Nat} {l : List EntD} (h : RowsOwn w lo e gs ps) (hB : ∀ x ∈ gs, x < B) (hg : B ≤ g) (hown : w.ownsRow lo e 4 (.slice (some ⟨g, 0, none⟩) l.length l.length) l.length (ES l)) :
    RowsOwn w lo e (gs ++ [g]) (ps ++ [l]) := by
  obtain ⟨h1, h2, h3⟩ := h
  refine ⟨by simp [h1], List.pairwise_append.2 ⟨h2, by simp, fun a ha b hb => by simp at hb; subst hb; exact Nat.lt_of_lt_of_le (hB a ha) hg⟩, fun i g' l' hg' hl' => ?_⟩
  by_cases hi : i < gs.length
  · rw [List.getElem?_append_left hi] at hg'
    rw [List.getElem?_append_left (by omega)] at hl'
    exact h3 i g' l' hg' hl'
  · rw [List.getElem?_append_right (by omega)] at hg'
    rw [List.getElem?_append_right (by omega)] at hl'
    have hi0 : i - gs.length = 0 := by
      have := (List.getElem?_eq_some_iff.1 hg').1
      simp at this; omega
    rw [hi0] at hg'
    rw [show i - ps.length = 0 by omega] at hl'
    simp at hg' hl'
    subst hg'
    subst hl'
    exact hown
theorem RowsOwn.lt {w : World} {lo : Nat} {e : TypeId} {gs : List Nat} {ps : List (List EntD)} (h : RowsOwn w lo e gs ps) : ∀ x ∈ gs, lo ≤ x ∧ x < w.heap.size := by
  intro x hx
  obtain ⟨i, hi, rfl⟩ := List.mem_iff_getElem.1 hx
  have hip : i < ps.length := by rw [← h.1]; exact hi
  exact own_lt (h.2.2 i gs[i] ps[i] (List.getElem?_eq_getElem hi) (List.getElem?_eq_getElem hip))
theorem RowsOwn.pages {w : World} {lo lo' : Nat} {e e' : TypeId} {gs : List Nat} {ps : List (List EntD)} {g c : Nat} (h : RowsOwn w lo e gs ps) (hown : w.ownsRow lo' e' 1 (.slice (some ⟨g, 0, none⟩) ps.length c) ps.length (rowVals gs ps)) :
    PagesAt w w.heap.size (some ⟨g, 0, none⟩) ps.length ps := by
  refine ⟨rowVals gs ps, Reads.of_own hown, rfl, fun i hi => ?_⟩
  have hig : i < gs.length := by rw [h.1]; exact hi
  refine ⟨some ⟨gs[i], 0, none⟩, ps[i].length, ?_, Reads.of_own (h.2.2 i gs[i] ps[i] (List.getElem?_eq_getElem hig) (List.getElem?_eq_getElem hi))⟩
  unfold rowVals
  rw [List.getElem?_zipWith, List.getElem?_eq_getElem hig, List.getElem?_eq_getElem hi]
theorem set_mid {α : Type} (l xs : List α) (j : Nat) (u : α) (h : l.length = j) (hj : j < xs.length) : (l ++ xs.drop j).set j u = l ++ [u] ++ xs.drop (j + 1) := by
  rw [List.set_append_right _ _ (by omega), h, Nat.sub_self, List.drop_eq_getElem_cons hj, List.set_cons_zero, List.append_assoc]; rfl
theorem own_cell1 {w : World} {base : Nat} {e : TypeId} {n g c : Nat} {xs : List Value} (h : w.ownsRow base e 1 (.slice (some ⟨g, 0, none⟩) n c) n xs) (k : Nat) (hk : k < n) : ∃ u, w.cell? ⟨g, k, none⟩ = some u := by
  have hl := h.1
  exact ⟨xs[k]'(by omega), by rw [h.cellAt k (by omega)]; exact List.getElem?_eq_getElem (by omega)⟩

end Go.Proofs.YtbchbmcphbeikaaGreatDoor
