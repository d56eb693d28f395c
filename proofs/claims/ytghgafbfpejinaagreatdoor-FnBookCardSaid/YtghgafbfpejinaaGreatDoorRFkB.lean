/- What holds at the head of each round of the law FnBook. -/
import Derived.Test.YtghgafbfpejinaaGreatDoorRFkA
namespace Go.Proofs.YtghgafbfpejinaaGreatDoor
open Go Go.RowKit

/-- The book in its box p, the directories that it had in the row v, and what ties them. -/
def FkS (w0 : World) (p : Nat) (v : Value) (wx : World) : Prop := ∃ B was ops bs sf sq g c vs, v = .slice (some ⟨g, 0, none⟩) was.length c ∧ JB B was ops bs sf sq ∧ SmB B ∧ BoxB p g B wx ∧ WasE p g vs was wx ∧
 wx.ownsRow w0.heap.size 26 1 (.slice (some ⟨g, 0, none⟩) was.length c) was.length vs ∧ w0.heap.size ≤ p ∧ p ≠ g ∧ Below w0.heap.size w0 wx
section
variable {p g c lo up : Nat} {vs : List Value} {was : List (List EntD)} {B : BookD} {w0 w W : World} {ops : Nat → Int × ByteArray × Int} {bs sf sq : Nat} {v : Value}
theorem own_keepB {w w' : World} {base n size : Nat} {e : TypeId} {v : Value} {xs : List Value} (h : w.ownsRow base e size v n xs) (hb : Below w.heap.size w w') : w'.ownsRow base e size v n xs := own_below h hb (Nat.le_refl _)
theorem FkS.below (h : FkS w0 p v w) (hb : Below w.heap.size w W) : FkS w0 p v W := by
 obtain ⟨B, was, ops, bs, sf, sq, g, c, vs, h1, h2, h3, h4, h5, h6, h7, h8, h9⟩ := h
 exact ⟨B, was, ops, bs, sf, sq, g, c, vs, h1, h2, h3, h4.below hb, h5.below hb, own_keepB h6 hb, h7, h8, belN h9 hb⟩
/-- A book that was made since stands in the box now. -/
theorem BoxB.put {A1 A2 A3 A4 : Option Addr} {c1 c2 c3 c4 : Nat} {w9 : World} (hB9 : Blk w9 p 28 #[.slice A1 B.rg.length c1, .slice A2 B.hm.length c2, .slice A3 B.pd.length c3, .slice A4 B.dr.length c4, .int .i64 B.sq, .int .i64 B.bs, .int .i64 B.sf, .int .i64 B.at_, .int .i64 B.df])
  (hin : InAt (fun w => IsBook w (.agg #[.slice A1 B.rg.length c1, .slice A2 B.hm.length c2, .slice A3 B.pd.length c3, .slice A4 B.dr.length c4, .int .i64 B.sq, .int .i64 B.bs, .int .i64 B.sf, .int .i64 B.at_, .int .i64 B.df]) B) lo up w)
  (hp : p < lo) (hg : g < lo) (hs : w9.heap.size = w.heap.size) (he : ∀ i, i ≠ p → w9.heap[i]? = w.heap[i]?) : BoxB p g B w9 :=
 ⟨A1, c1, A2, c2, A3, c3, A4, c4, lo, up, hB9, hin.keepL (by omega) fun i h1 h2 => he i (by omega), .inr hp, .inr hg⟩
/-- The row of the one empty directory beside a new book. -/
theorem FkS.start {A1 A2 A3 A4 : Option Addr} {c1 c2 c3 c4 : Nat} (hB : Blk w p 28 #[.slice A1 newB.rg.length c1, .slice A2 newB.hm.length c2, .slice A3 newB.pd.length c3, .slice A4 newB.dr.length c4, .int .i64 newB.sq, .int .i64 newB.bs, .int .i64 newB.sf, .int .i64 newB.at_, .int .i64 newB.df])
  (hin : InAt (fun w => IsBook w (.agg #[.slice A1 newB.rg.length c1, .slice A2 newB.hm.length c2, .slice A3 newB.pd.length c3, .slice A4 newB.dr.length c4, .int .i64 newB.sq, .int .i64 newB.bs, .int .i64 newB.sf, .int .i64 newB.at_, .int .i64 newB.df]) newB) lo up w)
  (hp : up ≤ p) (hp0 : w0.heap.size ≤ p) (hb : Below w0.heap.size w0 w) :
  FkS w0 p (.slice (some ⟨w.heap.size + 1, 0, none⟩) 1 1) ((w.alloc (.cells #[] 66)).alloc (.cells #[.slice (some ⟨w.heap.size, 0, none⟩) 0 0] 26)) := by
 have h0 := hb.size
 have hlt := hB.lt
 have b1 : Below w0.heap.size w0 (w.alloc (.cells #[] 66)) := belA hb _
 have z1 : (w.alloc (.cells #[] 66)).heap.size = w.heap.size + 1 := by simp
 have b2 : Below w.heap.size w ((w.alloc (.cells #[] 66)).alloc (.cells #[.slice (some ⟨w.heap.size, 0, none⟩) 0 0] 26)) := belA (belA (bel0 w) _) _
 have hE0 : (w.alloc (.cells #[] 66)).ownsRow w.heap.size 66 4 (.slice (some ⟨w.heap.size, 0, none⟩) 0 0) 0 (ES []) := World.ownsRow_lit w #[] 0 (Nat.le_refl _) (by unfold maxLen; omega) rfl
 have hE1 := own_inS (xs := []) rfl hE0
 have hO := World.ownsRow_lit (base := w0.heap.size) (e := 26) (size := 1) (w.alloc (.cells #[] 66)) #[.slice (some ⟨w.heap.size, 0, none⟩) 0 0] 1 (by omega) (by unfold maxLen; omega) rfl
 rw [z1] at hO
 refine ⟨newB, [[]], _, 0, 0, 0, w.heap.size + 1, 1, [.slice (some ⟨w.heap.size, 0, none⟩) 0 0], rfl, JB.new, newB_sm, ?_, ?_, hO, hp0, by omega, belA b1 _⟩
 ·have h := hin.1
  exact ⟨A1, c1, A2, c2, A3, c3, A4, c4, lo, up, hB.below b2 hB.lt, hin.next b2, .inl hp, .inl (by omega)⟩
 ·intro k v d h1 h2
  rcases k with _ | k
  ·simp only [List.getElem?_cons_zero, Option.some.injEq] at h1 h2
   subst h1 h2
   refine ⟨w.heap.size, w.heap.size + 1, (z1 ▸ (hE1.map fun _ h => h.isS)).next (belA (bel0 _) _), .inr (by omega), .inl (by omega)⟩
  ·simp at h1
/-- The end of an arm: the new book lies in the box. -/
theorem FkS.arm {A1 A2 A3 A4 : Option Addr} {c1 c2 c3 c4 : Nat} {w9 : World} (hJ : JB B was ops bs sf sq) (hS : SmB B) (hE : WasE p g vs was w) (hO : w.ownsRow w0.heap.size 26 1 (.slice (some ⟨g, 0, none⟩) was.length c) was.length vs)
  (hp0 : w0.heap.size ≤ p) (hpw : p < w.heap.size) (hpg : p ≠ g) (hb : Below w.heap.size w W) (hlo : w.heap.size ≤ lo)
  (hB9 : Blk w9 p 28 #[.slice A1 B.rg.length c1, .slice A2 B.hm.length c2, .slice A3 B.pd.length c3, .slice A4 B.dr.length c4, .int .i64 B.sq, .int .i64 B.bs, .int .i64 B.sf, .int .i64 B.at_, .int .i64 B.df])
  (hin : InAt (fun w => IsBook w (.agg #[.slice A1 B.rg.length c1, .slice A2 B.hm.length c2, .slice A3 B.pd.length c3, .slice A4 B.dr.length c4, .int .i64 B.sq, .int .i64 B.bs, .int .i64 B.sf, .int .i64 B.at_, .int .i64 B.df]) B) lo up W)
  (hs : w9.heap.size = W.heap.size) (he : ∀ i, i ≠ p → w9.heap[i]? = W.heap[i]?) (b9 : Below w0.heap.size w0 w9) : FkS w0 p (.slice (some ⟨g, 0, none⟩) was.length c) w9 := by
 have hg := (Tryz.ownG hO).1
 have hz := hb.size
 refine ⟨B, was, ops, bs, sf, sq, g, c, vs, rfl, hJ, hS, BoxB.put hB9 hin (by omega) (by omega) hs he, (hE.below hb).keep (by omega) fun i _ h2 _ => he i h2, own_eqN (own_keepB hO hb) fun k hk => he k ?_, hp0, hpg, b9⟩
 have : g = k := by simpa [Value.ownBlock] using hk
 omega
/-- A directory more at the row's end. -/
theorem FkS.app {w9 w1 : World} {u v1 : Value} {d : List EntD} {o : Obj} (hJ : JB B (was ++ [d]) ops bs sf sq) (hS : SmB B) (hX : BoxB p g B w9) (hE : WasE p g vs was w9) (hO : w9.ownsRow w0.heap.size 26 1 (.slice (some ⟨g, 0, none⟩) was.length c) was.length vs)
  (hp0 : w0.heap.size ≤ p) (hpg : p ≠ g) (hv : InAt (fun w => IsS w u d) lo up w9) (hpl : p < lo) (hgl : g < lo)
  (own1 : w1.ownsRow w0.heap.size 26 1 v1 (was.length + 1) (vs ++ [u])) (hg1 : (w9.alloc o).grownBy w1 (some g)) (hc : v1.ownBlock = some g ∨ v1.ownBlock = some (w9.alloc o).heap.size) (b1 : Below w0.heap.size w0 w1) : FkS w0 p v1 w1 := by
 have hl : vs.length = was.length := by have := hO.1; omega
 have hz : (w9.alloc o).heap.size = w9.heap.size + 1 := by simp
 have hs := hg1.size
 obtain ⟨g', c', rfl⟩ := own_form1 own1 (by omega)
 have hg' : g' = g ∨ g' = (w9.alloc o).heap.size := by rcases hc with h | h <;> (simp [Value.ownBlock] at h; omega)
 have hX2 : BoxB p g B (w9.alloc o) := hX.below (belA (bel0 _) _)
 have hE2 : WasE p g (vs ++ [u]) (was ++ [d]) (w9.alloc o) := (hE.app hl hv ⟨.inr hpl, .inr hgl⟩).below (belA (bel0 _) _)
 have hgb := (Tryz.ownG hO).1
 have hpb : p < w9.heap.size := by obtain ⟨_, _, _, _, _, _, _, _, _, _, h1, _⟩ := hX; exact h1.lt
 have he : ∀ i, i < (w9.alloc o).heap.size → i ≠ g → w1.heap[i]? = (w9.alloc o).heap[i]? := fun i h1 h2 => hg1.block i h1 (by simp; omega)
 refine ⟨B, was ++ [d], ops, bs, sf, sq, g', c', vs ++ [u], by simp, hJ, hS, hX2.grow hs he hpg hg', hE2.grow hs (fun i h1 _ h3 => he i h1 h3) hg', by simpa using own1, hp0, by rcases hg' with h | h <;> omega, b1⟩
end

end Go.Proofs.YtghgafbfpejinaaGreatDoor
