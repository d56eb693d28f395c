/- Values in memory of a call's own: held between two marks of the heap. -/
import Derived.Test.YtbchbmcphbeikaaGreatDoorMarks
import Derived.Test.YtbchbmcphbeikaaGreatDoorIsPg
namespace Go.Proofs.YtbchbmcphbeikaaGreatDoor
open Go Go.RowKit

/-- Something holds in every world in which the blocks from lo up to hi stand as they do here. -/
def InAt (I : World → Prop) (lo hi : Nat) (w : World) : Prop := hi ≤ w.heap.size ∧ ∀ w' : World, hi ≤ w'.heap.size → (∀ i, lo ≤ i → i < hi → w'.heap[i]? = w.heap[i]?) → I w'
section
variable {I J : World → Prop} {lo hi lo2 hi2 : Nat} {w w' : World}
theorem InAt.is (h : InAt I lo hi w) : I w := h.2 w h.1 fun _ _ _ => rfl
theorem InAt.next (h : InAt I lo hi w) (hb : Below w.heap.size w w') : InAt I lo hi w' :=
  ⟨Nat.le_trans h.1 hb.size, fun w2 h2 h3 => h.2 w2 h2 fun i h4 h5 => (h3 i h4 h5).trans (hb.block i (Nat.lt_of_lt_of_le h5 h.1))⟩
theorem InAt.betw (h : InAt I lo hi w) (hb : Betw lo2 hi2 w w') (hd : hi ≤ lo2 ∨ hi2 ≤ lo) : InAt I lo hi w' :=
  ⟨Nat.le_trans h.1 hb.size, fun w2 h2 h3 => h.2 w2 h2 fun i h4 h5 => (h3 i h4 h5).trans (hb.block i (Nat.lt_of_lt_of_le h5 h.1) (by omega))⟩
theorem InAt.map (h : InAt I lo hi w) (hf : ∀ w, I w → J w) : InAt J lo hi w := ⟨h.1, fun w2 h2 h3 => hf _ (h.2 w2 h2 h3)⟩
theorem InAt.wide (h : InAt I lo hi w) (h1 : lo2 ≤ lo) (h2 : hi ≤ hi2) (h3 : hi2 ≤ w.heap.size) : InAt I lo2 hi2 w :=
  ⟨h3, fun w2 h4 h5 => h.2 w2 (by omega) fun i h6 h7 => h5 i (by omega) (by omega)⟩
theorem InAt.and (h : InAt I lo hi w) (h' : InAt J lo hi w) : InAt (fun w => I w ∧ J w) lo hi w := ⟨h.1, fun w2 h2 h3 => ⟨h.2 w2 h2 h3, h'.2 w2 h2 h3⟩⟩
theorem InAt.low (h : InAt I lo hi w) : ∃ w0 : World, w0.heap.size = hi ∧ I w0 := by
  refine ⟨{ w with heap := w.heap.extract 0 hi }, ?_, h.2 _ ?_ fun i h1 h2 => ?_⟩
  · have := h.1; simp; omega
  · have := h.1; simp; omega
  · simp [Array.getElem?_extract]; omega
end
theorem own_in {w : World} {lo : Nat} {e : TypeId} {s n : Nat} {v : Value} {xs : List Value} (h : w.ownsRow lo e s v n xs) : InAt (fun w => w.ownsRow lo e s v n xs) lo w.heap.size w := by
  refine ⟨Nat.le_refl _, fun w' h1 h2 => ?_⟩
  obtain ⟨h3, h4⟩ := h
  refine ⟨h3, ?_⟩
  rcases h4 with h4 | ⟨g, cap, cur, hv, hg, hh, r⟩
  · exact .inl h4
  · exact .inr ⟨g, cap, cur, hv, hg, (h2 g hg (Array.getElem?_eq_some_iff.1 hh).1).trans hh, r⟩
theorem InAt.lt {w : World} {lo hi : Nat} {e : TypeId} {s n : Nat} {v : Value} {xs : List Value} (h : InAt (fun w => w.ownsRow lo e s v n xs) lo hi w) {g : Nat} (hg : v.ownBlock = some g) : lo ≤ g ∧ g < hi := by
  obtain ⟨w0, h1, h2⟩ := h.low
  have := h2.lt g hg
  omega
theorem InAt.grow {w w' : World} {lo hi : Nat} {e : TypeId} {s n : Nat} {v : Value} {xs xs' : List Value} (h : InAt (fun w => w.ownsRow lo e s v n xs) lo hi w) (h' : w'.ownsRow lo e s v n xs') (hg : w.grownBy w' v.ownBlock) :
    InAt (fun w => w.ownsRow lo e s v n xs') lo hi w' ∧ Betw lo hi w w' := by
  refine ⟨⟨Nat.le_trans h.1 hg.size, fun w2 h1 h2 => ?_⟩, ⟨hg.os, hg.tape, hg.output, hg.size, fun i h1 h2 => hg.block i h1 fun e => ?_⟩⟩
  · obtain ⟨h3, h4⟩ := h'
    refine ⟨h3, ?_⟩
    rcases h4 with h4 | ⟨g, cap, cur, hv, hgb, hh, r⟩
    · exact .inl h4
    · have := h.lt (g := g) (by rw [hv]; rfl)
      exact .inr ⟨g, cap, cur, hv, hgb, (h2 g hgb this.2).trans hh, r⟩
  · have := h.lt e.symm
    omega

theorem Betw.bel {lo hi B : Nat} {w w' : World} (h : Betw lo hi w w') (h1 : B ≤ lo) (h2 : B ≤ w.heap.size) : Below B w w' :=
  ⟨h.os, h.tape, h.output, h.size, fun i hi' => h.block i (by omega) (.inl (by omega))⟩

/-- A row of entries of a call's own. -/
def OwnS (lo : Nat) (v : Value) (xs : List EntD) (w : World) : Prop := w.ownsRow lo 40 4 v xs.length (ES xs)
theorem OwnS.isS {lo : Nat} {v : Value} {xs : List EntD} {w : World} (h : OwnS lo v xs w) : IsS w v xs := by
  obtain ⟨A, c, rfl, _, _, hr⟩ := own_vals h
  exact ⟨A, c, rfl, hr⟩
theorem own_inS {w : World} {lo : Nat} {v : Value} {xs : List EntD} {n : Nat} (hn : xs.length = n) (h : w.ownsRow lo 40 4 v n (ES xs)) : InAt (OwnS lo v xs) lo w.heap.size w := by subst hn; exact own_in h

end Go.Proofs.YtbchbmcphbeikaaGreatDoor
