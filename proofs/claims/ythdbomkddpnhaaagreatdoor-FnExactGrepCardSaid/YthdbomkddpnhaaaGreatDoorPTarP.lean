/- Archives of directories: plain Lean. -/
import Derived.Test.YthdbomkddpnhaaaGreatDoorPLk
import Derived.Test.YthdbomkddpnhaaaGreatDoorPLook
import Derived.Test.YthdbomkddpnhaaaGreatDoorPVolOk
namespace Go.Proofs.YthdbomkddpnhaaaGreatDoor
open Go Go.RowKit

def tarOne (xs : List InoD) (T : Int → ByteArray) (e : EntD) : ByteArray :=
 match xs[(plc xs e.d).toNat]? with
 | none => ⟨#[]⟩
 | some x => if x.kd = 2 then str [100] ++ pieceB e.s ++ T x.id ++ str [101] else str [102] ++ pieceB e.s ++ pieceB x.s
def entsOf (xs : List InoD) (a : Int) : List EntD := match xs[(plc xs a).toNat]? with | none => [] | some x => x.es
theorem sum_once (g : Int → Nat) : ∀ (l m : List Int), (∀ c ∈ l, g c ≠ 0 → c ∈ m ∧ l.count c ≤ 1) → (l.map g).sum ≤ (m.map g).sum
 | [], m, _ => by simp
 | c :: l, m, h => by
  rw [List.map_cons, List.sum_cons]
  by_cases h0 : g c = 0
  ·have := sum_once g l m fun d hd hg => by
    obtain ⟨h1, h2⟩ := h d (by simp [hd]) hg
    refine ⟨h1, Nat.le_trans ?_ h2⟩
    rw [List.count_cons]; omega
   omega
  ·obtain ⟨h1, h2⟩ := h c (by simp) h0
   have hc : l.count c = 0 := by rw [List.count_cons_self] at h2; omega
   have h3 := sum_once g l (m.erase c) fun d hd hg => by
    obtain ⟨h4, h5⟩ := h d (by simp [hd]) hg
    have hne : d ≠ c := by rintro rfl; exact absurd (List.count_pos_iff.2 hd) (by omega)
    refine ⟨(List.mem_erase_of_ne hne).2 h4, Nat.le_trans ?_ h5⟩
    rw [List.count_cons]; omega
   have h6 : (m.map g).sum = g c + ((m.erase c).map g).sum := by
    have := (List.perm_cons_erase h1).map g
    rw [this.sum_nat, List.map_cons, List.sum_cons]
   omega
section
variable {nx : Int} {xs : List InoD}
theorem mem_sum (f : Int → Nat) : ∀ (l : List Int) (c : Int), c ∈ l → f c ≤ (l.map f).sum
 | d :: l, c, h => by
  rw [List.map_cons, List.sum_cons]
  rcases List.mem_cons.1 h with rfl | h
  ·omega
  ·have := mem_sum f l c h; omega
/-- A directory that stands in a directory is one deeper. -/
theorem kid_deep (hv : VolP nx xs) {x y : InoD} (hx : x ∈ xs) {e : EntD} (he : e ∈ x.es) (hy : y ∈ xs) (hd : y.kd = 2) (hyd : y.id = e.d) : dpt xs y.id = dpt xs x.id + 1 := by
 obtain ⟨hne, _⟩ := hv.not1 hx he
 obtain ⟨x', hx', e', he', hed, _, hpr, h1, _⟩ := dir_up hv (a := y.id) (by rw [hyd]; exact hne) ⟨y, hy, rfl, hd⟩
 have hm : (x.id, e.s) ∈ pairs xs y.id := pairs_mem.2 ⟨x, hx, e, he, hyd.symm, rfl⟩
 rw [hpr] at hm
 have := List.mem_singleton.1 hm
 injection this with h2 _
 rw [h1, h2]
end

end Go.Proofs.YthdbomkddpnhaaaGreatDoor

