/- A book in a box and a row of directories beside it: what stays of them through worlds; codes made of a code. -/
import Derived.Test.YtghgafbfpejinaaGreatDoorRDraw
import Derived.Test.YtghgafbfpejinaaGreatDoorRIsPg
import Derived.Test.YtghgafbfpejinaaGreatDoorRDrD
import Derived.Test.YtghgafbfpejinaaGreatDoorRBkJ3
namespace Go.Proofs.YtghgafbfpejinaaGreatDoor
open Go Go.RowKit

set_option maxHeartbeats 400000 in
theorem big_any (A : Option Addr) (n cp : Nat) (w : World) :
  Calls Tryz.prog 5 #[.slice A n cp] w fun e w' => e = .returned (.bool (decide (1048576 < n))) ∧ Below w.heap.size w w' := by
 by_cases h : 1048576 < n
 ·have h1 : (n : Int) > 1048576 := by omega
  have hd : decide (1048576 < n) = true := by simpa using h
  have Hd := Lib.hid hd
  go_enter Tryz.func5, Tryz.ntmps5
  go_wp2
  go_ret
  exact ⟨by first | rfl | (rw [Hd.out]; rfl), bel0 w⟩
 ·have h1 : ¬ ((n : Int) > 1048576) := by omega
  have hd : decide (1048576 < n) = false := by simpa using h
  have Hd := Lib.hid hd
  go_enter Tryz.func5, Tryz.ntmps5
  go_wp2
  go_ret
  exact ⟨by first | rfl | (rw [Hd.out]; rfl), bel0 w⟩

set_option maxRecDepth 100000 in
set_option maxHeartbeats 2000000 in
theorem sameDir_self (v v' : Value) (ds : List EntD) (hn : ds.length ≤ 1000000) (w : World) (h : IsS w v ds) (h' : IsS w v' ds) :
  Calls Tryz.prog 13 #[v, v'] w fun e w' => e = .returned (.bool true) ∧ Below w.heap.size w w' := by
 obtain ⟨A, c, rfl, hr⟩ := h
 obtain ⟨A', c', rfl, hr'⟩ := h'
 have Hr := Lib.hid hr
 have Hr' := Lib.hid hr'
 clear hr hr'
 go_enter Tryz.func13, Tryz.ntmps13
 go_wp2
 go_loopw [5] (fun i wr => ∃ k : Nat, k ≤ ds.length ∧ i = .int .i64 k ∧ Below w.heap.size w wr)
  (fun i _ => ds.length - (intOf i).toNat)
 case atStart => exact ⟨0, by omega, rfl, bel0 w⟩
 case round =>
  obtain ⟨k, hk, rfl, hbel⟩ := hrel
  by_cases hlt : k < ds.length
  ·obtain ⟨hpx, b, o, hA, _, y0, y1, y2, y3⟩ := reads_ent (Hr.out.below hbel) hlt
   obtain ⟨_, b', o', hA', _, z0, z1, z2, z3⟩ := reads_ent (Hr'.out.below hbel) hlt
   subst hA hA'
   obtain ⟨e, he⟩ : ∃ e, ds[k] = e := ⟨_, rfl⟩
   rw [he] at y0 y1 y2 y3 z0 z1 z2 z3
   clear he
   have q0 : (0 : Int) ≤ (k : Int) := by omega
   have q1 : (k : Int) < (ds.length : Int) := by omega
   go_wp2_with fail
   go_still (by kernel_rfl)
   change Exit.then _ _ Exit.normal _ wr.drew
   go_wp2
   first
    | exact ⟨⟨k + 1, by omega, by go_num, hbel.drew⟩, by simp [intOf]; omega⟩
    | (go_roundw; case rel => exact ⟨k + 1, by omega, by go_num, hbel.drew⟩; case measure => (simp [intOf]; omega))
  ·have q1 : ¬ ((k : Int) < (ds.length : Int)) := by omega
   go_wp2
   go_ret
   exact ⟨rfl, hbel⟩

theorem Tryz.el_dr : ElemOk Tryz.prog 30 26 (.slice none 0 0) 1 24 := ⟨Tryz.underlying30, by kernel_rfl, rfl, by omega⟩
/-- Blocks lo .. hi hold neither of two. -/
def Off (p g lo hi : Nat) : Prop := (hi ≤ p ∨ p < lo) ∧ (hi ≤ g ∨ g < lo)
/-- Each value is a directory. -/
def WasE (p g : Nat) (vs : List Value) (was : List (List EntD)) (w : World) : Prop := ∀ (k : Nat) (v : Value) (d : List EntD), vs[k]? = some v → was[k]? = some d → ∃ lo hi, InAt (fun w => IsS w v d) lo hi w ∧ Off p g lo hi
/-- The box p holds a book. -/
def BoxB (p g : Nat) (B : BookD) (w : World) : Prop := ∃ A1 c1 A2 c2 A3 c3 A4 c4 lo up, Blk w p 28 #[.slice A1 B.rg.length c1, .slice A2 B.hm.length c2, .slice A3 B.pd.length c3, .slice A4 B.dr.length c4, .int .i64 B.sq, .int .i64 B.bs, .int .i64 B.sf, .int .i64 B.at_, .int .i64 B.df] ∧
 InAt (fun w => IsBook w (.agg #[.slice A1 B.rg.length c1, .slice A2 B.hm.length c2, .slice A3 B.pd.length c3, .slice A4 B.dr.length c4, .int .i64 B.sq, .int .i64 B.bs, .int .i64 B.sf, .int .i64 B.at_, .int .i64 B.df]) B) lo up w ∧ Off p g lo up
section
variable {p g g' lo hi : Nat} {vs : List Value} {was : List (List EntD)} {B : BookD} {w w' : World}
theorem WasE.keep (h : WasE p g vs was w) (hs : w.heap.size ≤ w'.heap.size) (he : ∀ i, i < w.heap.size → i ≠ p → i ≠ g → w'.heap[i]? = w.heap[i]?) : WasE p g vs was w' := by
 intro k v d h1 h2
 obtain ⟨lo, hi, h3, h4, h5⟩ := h k v d h1 h2
 have := h3.1
 exact ⟨lo, hi, h3.keepL hs fun i h6 h7 => he i (by omega) (by omega) (by omega), h4, h5⟩
theorem WasE.below (h : WasE p g vs was w) (hb : Below w.heap.size w w') : WasE p g vs was w' := h.keep hb.size fun i hi _ _ => hb.block i hi
theorem WasE.grow (h : WasE p g vs was w) (hs : w.heap.size ≤ w'.heap.size) (he : ∀ i, i < w.heap.size → i ≠ p → i ≠ g → w'.heap[i]? = w.heap[i]?) (hg : g' = g ∨ g' = w.heap.size) : WasE p g' vs was w' := by
 intro k v d h1 h2
 obtain ⟨lo, hi, h3, h4, h5⟩ := h k v d h1 h2
 have := h3.1
 exact ⟨lo, hi, h3.keepL hs fun i h6 h7 => he i (by omega) (by omega) (by omega), h4, by rcases hg with rfl | rfl <;> omega⟩
theorem WasE.app (h : WasE p g vs was w) (hl : vs.length = was.length) {v : Value} {d : List EntD} (hv : InAt (fun w => IsS w v d) lo hi w) (ho : Off p g lo hi) : WasE p g (vs ++ [v]) (was ++ [d]) w := by
 intro k u e h1 h2
 by_cases hk : k < vs.length
 ·rw [List.getElem?_append_left hk] at h1
  rw [List.getElem?_append_left (by omega)] at h2
  exact h k u e h1 h2
 ·rw [List.getElem?_append_right (by omega)] at h1
  rw [List.getElem?_append_right (by omega), ← hl] at h2
  obtain ⟨h3, h4⟩ : u = v ∧ e = d := by
   rcases hk0 : k - vs.length with _ | j
   ·rw [hk0] at h1 h2; simp at h1 h2; exact ⟨h1.symm, h2.symm⟩
   ·rw [hk0] at h1; simp at h1
  subst h3 h4
  exact ⟨lo, hi, hv, ho⟩
theorem WasE.cut (h : WasE p g vs was w) (m : Nat) : WasE p g (vs.take m) (was.take m) w := by
 intro k v d h1 h2
 rw [List.getElem?_take] at h1 h2
 split at h1
 ·rename_i hk
  rw [if_pos hk] at h2
  exact h k v d h1 h2
 ·cases h1
theorem WasE.get (h : WasE p g vs was w) (hl : vs.length = was.length) {k : Nat} (hk : k < was.length) : ∃ v, vs[k]? = some v ∧ IsS w v (was.getD k []) := by
 obtain ⟨lo, hi, h3, _⟩ := h k (vs[k]'(by omega)) was[k] (List.getElem?_eq_getElem (by omega)) (List.getElem?_eq_getElem hk)
 refine ⟨vs[k]'(by omega), List.getElem?_eq_getElem (by omega), ?_⟩
 have : was.getD k [] = was[k] := by simp [List.getD, List.getElem?_eq_getElem hk]
 rw [this]
 exact h3.is
theorem BoxB.below (h : BoxB p g B w) (hb : Below w.heap.size w w') : BoxB p g B w' := by
 obtain ⟨A1, c1, A2, c2, A3, c3, A4, c4, lo, up, h1, h2, h3, h4⟩ := h
 exact ⟨A1, c1, A2, c2, A3, c3, A4, c4, lo, up, h1.below hb h1.lt, h2.next hb, h3, h4⟩
theorem BoxB.grow (h : BoxB p g B w) (hs : w.heap.size ≤ w'.heap.size) (he : ∀ i, i < w.heap.size → i ≠ g → w'.heap[i]? = w.heap[i]?) (hpg : p ≠ g) (hg : g' = g ∨ g' = w.heap.size) : BoxB p g' B w' := by
 obtain ⟨A1, c1, A2, c2, A3, c3, A4, c4, lo, up, h1, h2, h3, h4⟩ := h
 have := h2.1
 exact ⟨A1, c1, A2, c2, A3, c3, A4, c4, lo, up, h1.eqN (he p h1.lt hpg), h2.keepL hs fun i h6 h7 => he i (by omega) (by omega), h3, by rcases hg with rfl | rfl <;> omega⟩
end
theorem Tryz.ownG {w : World} {b0 g c n : Nat} {e : TypeId} {xs : List Value} (h : w.ownsRow b0 e 1 (.slice (some ⟨g, 0, none⟩) n c) n xs) : g < w.heap.size ∧ b0 ≤ g := by
 obtain ⟨hb, cur, hg, _⟩ := own_some h
 exact ⟨(Array.getElem?_eq_some_iff.1 hg).1, hb⟩
/-- What a code has at a place: the same whenever it is asked. -/
theorem at_same (A : Option Addr) (n cp : Nat) (bs : List UInt8) (hn : n ≤ 1048576) (i : Nat) (hi : i ≤ 1000) (w : World) (hr : Reads w w.heap.size 1 A n (B8 bs)) :
  ∃ x : Int, 0 ≤ x ∧ x ≤ 255 ∧ ∀ W, Below w.heap.size w W → Calls Tryz.prog 9 #[.slice A n cp, .int .i64 i] W fun e w' => e = .returned (.int .i64 x) ∧ w' = W := by
 by_cases hlt : i < n
 ·have hI : (i : Int) < (n : Int) := by omega
  have q0 : (0 : Int) ≤ (i : Int) := by omega
  obtain ⟨b, ad, rfl, z0⟩ : ∃ (b : UInt8) (ad : Addr), A = some ad ∧ w.cell? (ad.add i) = some (.int .u8 b.toNat) := by
   obtain ⟨ad, hA, _, hc⟩ := hr.2 (by omega)
   have hlen : i < bs.length := by have := hr.1; simp [B8] at this; omega
   exact ⟨bs[i], ad, hA, hc i _ (by simp [B8, hlen])⟩
  have hb := b.toNat_lt
  have wb : IntKind.i64.wrap (b.toNat : Int) = (b.toNat : Int) := by rw [IntKind.wrap_i64]; omega
  refine ⟨(b.toNat : Int), by omega, by omega, fun W hW => ?_⟩
  have z1 := keep1 hW z0
  clear z0 hr
  go_enter Tryz.func9, Tryz.ntmps9
  go_wp2
  go_ret
  exact ⟨rfl, rfl⟩
 ·have hI : ¬ ((i : Int) < (n : Int)) := by omega
  have w1 : IntKind.i64.wrap ((i : Int) * 37) = (i : Int) * 37 := by rw [IntKind.wrap_i64]; omega
  have w2 : IntKind.i64.wrap ((n : Int) * 11) = (n : Int) * 11 := by rw [IntKind.wrap_i64]; omega
  have w3 : IntKind.i64.wrap ((i : Int) * 37 + (n : Int) * 11) = (i : Int) * 37 + (n : Int) * 11 := by rw [IntKind.wrap_i64]; omega
  have mt : ((i : Int) * 37 + (n : Int) * 11).tmod 256 = ((i : Int) * 37 + (n : Int) * 11) % 256 := by rw [Int.tmod_eq_emod_of_nonneg (by omega)]
  refine ⟨((i : Int) * 37 + (n : Int) * 11) % 256, by omega, by omega, fun W _ => ?_⟩
  clear hr
  go_enter Tryz.func9, Tryz.ntmps9
  go_wp2
  go_ret
  exact ⟨rfl, rfl⟩
theorem byte_of (x : Int) : ∃ b : UInt8, x % 256 = (b.toNat : Int) := by
 obtain ⟨b, hb, _⟩ := byte_ex (x % 256) (x % 256).toNat (by omega) (by omega)
 exact ⟨b, hb⟩
/-- What a made code is. -/
def FreshP (w : World) (e : Ending) (w' : World) : Prop := ∃ A' n' c' bs', e = .returned (.slice A' n' c') ∧ n' ≤ 1000 ∧ Reads w' w'.heap.size 1 A' n' (B8 bs') ∧ Below w.heap.size w w'
set_option maxHeartbeats 1000000 in
/-- A code made of another one. -/
theorem fresh_any (A : Option Addr) (n cp : Nat) (bs : List UInt8) (hn : n ≤ 1048576) (i : Nat) (hi : i ≤ 1000) (w : World) (hr : Reads w w.heap.size 1 A n (B8 bs)) :
  Calls Tryz.prog 8 #[.slice A n cp, .int .i64 i] w (FreshP w) := by
 have Hr := Lib.hid hr
 clear hr
 go_enter Tryz.func8, Tryz.ntmps8
 obtain ⟨b0, hb0⟩ := byte_of (i : Int)
 go_wp2
 have hwi : (i : Int) ≤ 1000 := by omega
 go_loopw [5, 6] (fun v j wr => ∃ (ds : List UInt8) (k : Nat), j = .int .i64 (k : Int) ∧ k ≤ 600 ∧ k ≤ n ∧ ds.length = k + 1 ∧ wr.ownsRow w.heap.size 5 1 v ds.length (B8 ds) ∧ Below w.heap.size w wr) (fun _ j _ => 600 - (intOf j).toNat)
 case atStart => exact ⟨[b0], 0, rfl, by omega, by omega, rfl, World.ownsRow_lit w #[.int .u8 b0.toNat] 1 (Nat.le_refl _) (by unfold maxLen; omega) rfl, belA (bel0 w) _⟩
 case round =>
  obtain ⟨ds, k, rfl, hk, hkn, hlen, hown, hb⟩ := hrel
  have hb0 := hb.size
  by_cases hlt : k < n
  ·have hlt' : (k : Int) < (n : Int) := by omega
   by_cases h6 : k < 600
   ·have h6' : (k : Int) < 600 := by omega
    have k0 : (0 : Int) ≤ (k : Int) := by omega
    obtain ⟨b, ad, rfl, z0⟩ : ∃ (b : UInt8) (ad : Addr), A = some ad ∧ w.cell? (ad.add k) = some (.int .u8 b.toNat) := by
     obtain ⟨ad, hA, _, hc⟩ := Hr.out.2 (by omega)
     have hl : k < bs.length := by have := Hr.out.1; simp [B8] at this; omega
     exact ⟨bs[k], ad, hA, hc k _ (by simp [B8, hl])⟩
    have z1 := keep1 hb z0
    have hbb := b.toNat_lt
    have wb : IntKind.i64.wrap (b.toNat : Int) = (b.toNat : Int) := by rw [IntKind.wrap_i64]; omega
    have w1 : IntKind.i64.wrap ((b.toNat : Int) * 3) = (b.toNat : Int) * 3 := by rw [IntKind.wrap_i64]; omega
    obtain ⟨r, hr7⟩ : ∃ r : Int, (k : Int).tmod 7 = r := ⟨_, rfl⟩
    have hr0 : 0 ≤ r ∧ r ≤ 6 := by rw [Int.tmod_eq_emod_of_nonneg k0] at hr7; omega
    have w2 : IntKind.i64.wrap (r + 1) = r + 1 := by rw [IntKind.wrap_i64]; omega
    obtain ⟨m, hm⟩ : ∃ m : Int, (i : Int) * (r + 1) = m := ⟨_, rfl⟩
    have hm0 : 0 ≤ m ∧ m ≤ 7000 := by
     constructor
     ·rw [← hm]; exact Int.mul_nonneg (by omega) (by omega)
     ·rw [← hm]; exact Int.le_trans (Int.mul_le_mul hwi (show r + 1 ≤ 7 by omega) (by omega) (by omega)) (by omega)
    have w3 : IntKind.i64.wrap m = m := by rw [IntKind.wrap_i64]; omega
    have w4 : IntKind.i64.wrap ((b.toNat : Int) * 3 + m) = (b.toNat : Int) * 3 + m := by rw [IntKind.wrap_i64]; omega
    have w5 : IntKind.i64.wrap ((k : Int) + 1) = (k : Int) + 1 := by rw [IntKind.wrap_i64]; omega
    obtain ⟨c, hc⟩ := byte_of ((b.toNat : Int) * 3 + m)
    clear hm0 hr0
    go_wp2_with (at_builtin; go_must (refine wpList_app _ rfl _ _ _ rfl Tryz.el_u8 (hown.alloc _) rfl (reads_new _ _ _ _ 1 (by rfl)) rfl (B8_cells [c]) (max_small (by omega)) (by omega) (by simp; omega) ?_); intro v1 w1 own1 hg1 _ hb1)
    go_roundw
    case rel => exact ⟨ds ++ [c], k + 1, by simp, by omega, by omega, by simp [hlen], by rw [B8_append, List.length_append]; exact own1, (hb.alloc (by omega) _).trans hb1⟩
    case measure => simp [intOf]; omega
   ·have h6' : ¬ ((k : Int) < 600) := by omega
    go_wp2
    obtain ⟨A', c', rfl, h1, h2, h3⟩ := own_vals hown
    go_ret
    exact ⟨A', _, c', ds, rfl, by omega, h3, hb⟩
  ·have hlt' : ¬ ((k : Int) < (n : Int)) := by omega
   go_wp2
   obtain ⟨A', c', rfl, h1, h2, h3⟩ := own_vals hown
   go_ret
   exact ⟨A', _, c', ds, rfl, by omega, h3, hb⟩

end Go.Proofs.YtghgafbfpejinaaGreatDoor
