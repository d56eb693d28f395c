/- DpNext, DpOk. -/
import Derived.Test.YtghgafbfpejinaaGreatDoorRIsPg
import Derived.Test.YtghgafbfpejinaaGreatDoorRRecs
import Derived.Test.YtghgafbfpejinaaGreatDoorRPgOk
import Derived.Test.YtghgafbfpejinaaGreatDoorRBook
import Derived.Test.YtghgafbfpejinaaGreatDoorRDir
namespace Go.Proofs.YtghgafbfpejinaaGreatDoor
open Go Go.RowKit

/-- Something holds in every world in which the blocks from lo up to hi stand as they do here. -/
def InAt (I : World → Prop) (lo hi : Nat) (w : World) : Prop := hi ≤ w.heap.size ∧ ∀ w' : World, hi ≤ w'.heap.size → (∀ i, lo ≤ i → i < hi → w'.heap[i]? = w.heap[i]?) → I w'
section
variable {I J : World → Prop} {lo hi lo2 hi2 : Nat} {w w' : World}
theorem InAt.is (h : InAt I lo hi w) : I w := h.2 w h.1 fun _ _ _ => rfl
theorem InAt.next (h : InAt I lo hi w) (hb : Below w.heap.size w w') : InAt I lo hi w' :=
 ⟨Nat.le_trans h.1 hb.size, fun w2 h2 h3 => h.2 w2 h2 fun i h4 h5 => (h3 i h4 h5).trans (hb.block i (Nat.lt_of_lt_of_le h5 h.1))⟩
theorem InAt.map (h : InAt I lo hi w) (hf : ∀ w, I w → J w) : InAt J lo hi w := ⟨h.1, fun w2 h2 h3 => hf _ (h.2 w2 h2 h3)⟩
end
theorem own_in {w : World} {lo : Nat} {e : TypeId} {s n : Nat} {v : Value} {xs : List Value} (h : w.ownsRow lo e s v n xs) : InAt (fun w => w.ownsRow lo e s v n xs) lo w.heap.size w := by
 refine ⟨Nat.le_refl _, fun w' h1 h2 => ?_⟩
 obtain ⟨h3, h4⟩ := h
 refine ⟨h3, ?_⟩
 rcases h4 with h4 | ⟨g, cap, cur, hv, hg, hh, r⟩
 ·exact .inl h4
 ·exact .inr ⟨g, cap, cur, hv, hg, (h2 g hg (Array.getElem?_eq_some_iff.1 hh).1).trans hh, r⟩
/-- A row of entries of a call's own. -/
def OwnS (lo : Nat) (v : Value) (xs : List EntD) (w : World) : Prop := w.ownsRow lo 66 4 v xs.length (ES xs)
theorem OwnS.isS {lo : Nat} {v : Value} {xs : List EntD} {w : World} (h : OwnS lo v xs w) : IsS w v xs := by
 obtain ⟨A, c, rfl, _, _, hr⟩ := own_vals h
 exact ⟨A, c, rfl, hr⟩
theorem own_inS {w : World} {lo : Nat} {v : Value} {xs : List EntD} {n : Nat} (hn : xs.length = n) (h : w.ownsRow lo 66 4 v n (ES xs)) : InAt (OwnS lo v xs) lo w.heap.size w := by subst hn; exact own_in h

/-- Two rows do not lie in one block. -/
def Dis (a b : Value) : Prop := a.ownBlock = none ∨ b.ownBlock = none ∨ a.ownBlock ≠ b.ownBlock
theorem Dis.l {a b : Value} (h : Dis a b) : a.ownBlock = none ∨ a.ownBlock ≠ b.ownBlock := by
 rcases h with h | h | h
 ·exact .inl h
 ·rcases ha : a.ownBlock with _ | g
  ·exact .inl rfl
  ·exact .inr (by rw [h]; simp)
 ·exact .inr h
theorem Dis.symm {a b : Value} (h : Dis a b) : Dis b a := by
 rcases h with h | h | h
 ·exact .inr (.inl h)
 ·exact .inl h
 ·exact .inr (.inr fun e => h e.symm)
/-- The rows of a book. -/
def BkV (B : BookD) (v v1 v2 v3 v4 : Value) : Prop := ∃ A1 c1 A2 c2 A3 c3 A4 c4, v1 = .slice A1 B.rg.length c1 ∧ v2 = .slice A2 B.hm.length c2 ∧ v3 = .slice A3 B.pd.length c3 ∧ v4 = .slice A4 B.dr.length c4 ∧
 v = .agg #[v1, v2, v3, v4, .int .i64 B.sq, .int .i64 B.bs, .int .i64 B.sf, .int .i64 B.at_, .int .i64 B.df]
/-- A book of a call's own. -/
def OwnBk (lo : Nat) (v : Value) (B : BookD) (w : World) : Prop := ∃ v1 v2 v3 v4, BkV B v v1 v2 v3 v4 ∧
 w.ownsRow lo 9 1 v1 B.rg.length (SS B.rg) ∧ w.ownsRow lo 9 1 v2 B.hm.length (SS B.hm) ∧ w.ownsRow lo 55 2 v3 B.pd.length (RS B.pd) ∧ w.ownsRow lo 66 4 v4 B.dr.length (ES B.dr) ∧
 Dis v1 v2 ∧ Dis v1 v3 ∧ Dis v1 v4 ∧ Dis v2 v3 ∧ Dis v2 v4 ∧ Dis v3 v4
theorem OwnBk.isBk {lo : Nat} {v : Value} {B : BookD} {w : World} (h : OwnBk lo v B w) : IsBook w v B := by
 obtain ⟨v1, v2, v3, v4, ⟨A1, c1, A2, c2, A3, c3, A4, c4, rfl, rfl, rfl, rfl, rfl⟩, h1, h2, h3, h4, _⟩ := h
 exact ⟨A1, c1, A2, c2, A3, c3, A4, c4, rfl, own_rd h1, own_rd h2, own_rd h3, own_rd h4⟩
/-- Its rows, each held. -/
def BkH (lo up : Nat) (v : Value) (B : BookD) (w : World) : Prop := ∃ v1 v2 v3 v4, BkV B v v1 v2 v3 v4 ∧
 InAt (fun w => w.ownsRow lo 9 1 v1 B.rg.length (SS B.rg)) lo up w ∧ InAt (fun w => w.ownsRow lo 9 1 v2 B.hm.length (SS B.hm)) lo up w ∧
 InAt (fun w => w.ownsRow lo 55 2 v3 B.pd.length (RS B.pd)) lo up w ∧ InAt (fun w => w.ownsRow lo 66 4 v4 B.dr.length (ES B.dr)) lo up w ∧
 Dis v1 v2 ∧ Dis v1 v3 ∧ Dis v1 v4 ∧ Dis v2 v3 ∧ Dis v2 v4 ∧ Dis v3 v4
theorem BkH.inAt {lo up : Nat} {v : Value} {B : BookD} {w : World} (h : BkH lo up v B w) : InAt (OwnBk lo v B) lo up w := by
 obtain ⟨v1, v2, v3, v4, h0, h1, h2, h3, h4, hd⟩ := h
 exact ⟨h1.1, fun w' a b => ⟨v1, v2, v3, v4, h0, h1.2 w' a b, h2.2 w' a b, h3.2 w' a b, h4.2 w' a b, hd⟩⟩

theorem own_nilC (w : World) (base size : Nat) (e : TypeId) : w.ownsRow base e size (.slice none 0 0) 0 [] := ⟨by simp, .inl ⟨rfl, rfl⟩⟩
set_option maxHeartbeats 1000000 in
theorem copyEnts_impl (A : Option Addr) (n c : Nat) (ds : List EntD) (hn : n ≤ 100000) (w : World) (hr : Reads w w.heap.size 4 A n (ES ds)) :
  Calls Tryz.prog 67 #[.slice A n c] w fun e w' => ∃ v, e = .returned v ∧ w'.ownsRow w.heap.size 66 4 v n (ES ds) ∧ Below w.heap.size w w' := by
 have Hr := Lib.hid hr
 clear hr
 go_enter Tryz.func67, Tryz.ntmps67
 go_wp2_with (at_builtin; refine wpList_app _ rfl _ _ _ rfl Tryz.el_ent (own_nilC _ w.heap.size 4 _) rfl Hr.out rfl (ES_cells _) (by unfold maxLen; omega) (by omega) (Nat.le_refl _) ?_; intro v1 w1 own1 _ _ hb1; rw [Nat.zero_add, List.nil_append] at own1; have Own1 := Lib.hid own1; clear own1)
 go_ret
 exact ⟨_, rfl, Own1.out, hb1⟩

set_option maxHeartbeats 1000000 in
theorem l5Copy_any (A : Option Addr) (n c : Nat) (ds : List EntD) (hn : n ≤ 100000) (w : World) (hr : Reads w w.heap.size 4 A n (ES ds)) :
  Calls Tryz.prog 42 #[.slice A n c] w fun e w' => ∃ v, e = .returned v ∧ w'.ownsRow w.heap.size 66 4 v n (ES ds) ∧ Below w.heap.size w w' := by
 have Hr := Lib.hid hr
 clear hr
 have hlit := World.ownsRow_lit (e := 66) (size := 4) w #[] 0 (Nat.le_refl _) (by unfold maxLen; omega) rfl
 go_enter Tryz.func42, Tryz.ntmps42
 go_wp2_with (at_builtin; refine wpList_app _ rfl _ _ _ rfl Tryz.el_ent hlit rfl ((Hr.out.below (belA (bel0 w) _)).more (Nat.le_succ _)) rfl (ES_cells _) (by unfold maxLen; omega) (by omega) (by simp) ?_; intro v1 w1 own1 _ _ hb1; rw [Nat.zero_add] at own1; have Own1 := Lib.hid own1; clear own1)
 go_ret
 exact ⟨_, rfl, Own1.out, (belA (bel0 w) _).trans hb1⟩

theorem dir12 {ds : List EntD} (h : dirOkB ds = true) : ds.length ≤ 12 := (dirOkB_iff.1 h).1

theorem dirOk_nil : dirOkB [] = true := dirOkB_true ⟨by simp, fun i h => absurd h (by simp)⟩

end Go.Proofs.YtghgafbfpejinaaGreatDoor
