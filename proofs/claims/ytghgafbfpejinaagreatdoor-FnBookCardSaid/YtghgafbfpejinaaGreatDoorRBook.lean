/- Books in memory: sizes, copies, equality, what a law's argument of a book is. -/
import Derived.Test.YtghgafbfpejinaaGreatDoorRRecs
import Derived.Test.YtghgafbfpejinaaGreatDoorRStrRows
import Derived.Test.YtghgafbfpejinaaGreatDoorRIsPg
import Derived.Test.YtghgafbfpejinaaGreatDoorRFrame
import Derived.Deep.Slices
import Derived.Deep.Fields
import Derived.Test.YtghgafbfpejinaaGreatDoorRDir
import Derived.Deep.RegionHeld3
namespace Go.Proofs.YtghgafbfpejinaaGreatDoor
open Go Go.RowKit Go.WideShapes Go.ChangeShapes Go.Deep

/-- How much writes have of the size. -/
def szW (l : List (Int × ByteArray)) : Nat := l.length + (l.map fun e => e.2.size).sum
theorem szW_len (l : List (Int × ByteArray)) : l.length ≤ szW l := by unfold szW; omega

section
variable {H : Type} {enc : TypeId × Value → H} {w : World} {base : Nat} {spare : Nat → Bool} {held : Bool}
end

structure BookD where
 rg : List ByteArray
 hm : List ByteArray
 pd : List (Int × ByteArray)
 dr : List EntD
 sq : Int
 bs : Int
 sf : Int
 at_ : Int
 df : Int
def BookAt (w : World) (N : Nat) (B : BookD) (A1 A2 A3 A4 : Option Addr) : Prop :=
 Reads w N 1 A1 B.rg.length (SS B.rg) ∧ Reads w N 1 A2 B.hm.length (SS B.hm) ∧ Reads w N 2 A3 B.pd.length (RS B.pd) ∧ Reads w N 4 A4 B.dr.length (ES B.dr)
theorem BookAt.next {w w' : World} {B : BookD} {A1 A2 A3 A4 : Option Addr} (h : BookAt w w.heap.size B A1 A2 A3 A4) (hb : Below w.heap.size w w') : BookAt w' w'.heap.size B A1 A2 A3 A4 :=
 ⟨(h.1.below hb).more hb.size, (h.2.1.below hb).more hb.size, (h.2.2.1.below hb).more hb.size, (h.2.2.2.below hb).more hb.size⟩
/-- A value is this book. -/
def IsBook (w : World) (v : Value) (B : BookD) : Prop := ∃ A1 c1 A2 c2 A3 c3 A4 c4, v = .agg #[.slice A1 B.rg.length c1, .slice A2 B.hm.length c2, .slice A3 B.pd.length c3, .slice A4 B.dr.length c4, .int .i64 B.sq, .int .i64 B.bs, .int .i64 B.sf, .int .i64 B.at_, .int .i64 B.df] ∧ BookAt w w.heap.size B A1 A2 A3 A4
theorem IsBook.next {w w' : World} {v : Value} {B : BookD} (h : IsBook w v B) (hb : Below w.heap.size w w') : IsBook w' v B := by
 obtain ⟨A1, c1, A2, c2, A3, c3, A4, c4, h1, h2⟩ := h
 exact ⟨A1, c1, A2, c2, A3, c3, A4, c4, h1, h2.next hb⟩
def szBk (B : BookD) : Nat := szT B.rg + szT B.hm + szW B.pd + szS B.dr
theorem bk_len {B : BookD} (sm : szBk B ≤ 1048576) : B.rg.length ≤ 10000000 ∧ B.hm.length ≤ 10000000 ∧ B.pd.length ≤ 10000000 ∧ B.dr.length ≤ 10000000 := by
 have h1 := szT_len B.rg
 have h2 := szT_len B.hm
 have h3 := szW_len B.pd
 have h4 := szS_n B.dr
 unfold szBk at sm; omega

theorem own_rd {w : World} {base : Nat} {e : TypeId} {size n c : Nat} {A : Option Addr} {xs : List Value} (h : w.ownsRow base e size (.slice A n c) n xs) : Reads w w.heap.size size A n xs := by
 obtain ⟨A', c', hv, _, _, hr⟩ := own_vals h
 cases hv
 exact hr
section
variable {H : Type} {enc : TypeId × Value → H} {w : World} {base : Nat} {spare : Nat → Bool} {held : Bool}
end

end Go.Proofs.YtghgafbfpejinaaGreatDoor
