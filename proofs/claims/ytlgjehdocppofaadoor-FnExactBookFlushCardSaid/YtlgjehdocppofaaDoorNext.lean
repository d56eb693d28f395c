/- The next entry of a directory, in both packages; pages that are a directory. -/
import Derived.Test.YtlgjehdocppofaaDoorDirS
import Derived.Test.YtlgjehdocppofaaDoorPgFind
import Derived.Test.YtlgjehdocppofaaDoorIsPg
namespace Go.Proofs.YtlgjehdocppofaaDoor
open Go Go.RowKit

def EntD.zero : EntD := ⟨0, 0, ⟨#[]⟩, 0⟩
/-- An entry and whether there is one. -/
def EntPost (P : EntD × Bool) (e : Ending) : Prop := ∃ E fb, P = (E, fb) ∧ e = .returned (.tuple #[.agg #[.int .i64 E.h, .int .i64 E.i, .string E.s, .int .i64 E.d], .bool fb])
theorem entPost_end {P : EntD × Bool} {E : EntD} {fb : Bool} {v : Value} (h : P = (E, fb)) (hv : v = .tuple #[.agg #[.int .i64 E.h, .int .i64 E.i, .string E.s, .int .i64 E.d], .bool fb]) : EntPost P (.returned v) := ⟨E, fb, h, by rw [hv]⟩
/-- The first entry behind a place. -/
noncomputable def nxtP (ds : List EntD) (x y : Int) : EntD × Bool := if dirOkB ds = true then (match ds.find? (fun e => behB e x y) with | some e => (e, true) | none => (EntD.zero, false)) else (EntD.zero, false)
theorem nxtP_bad {ds : List EntD} {x y : Int} (h : dirOkB ds = false) : nxtP ds x y = (EntD.zero, false) := by unfold nxtP; rw [if_neg (by rw [h]; simp)]
theorem nxtP_some {ds : List EntD} {x y : Int} {e : EntD} (h : dirOkB ds = true) (hf : ds.find? (fun e => behB e x y) = some e) : nxtP ds x y = (e, true) := by unfold nxtP; rw [if_pos h, hf]
theorem nxtP_none {ds : List EntD} {x y : Int} (h : dirOkB ds = true) (hf : ds.find? (fun e => behB e x y) = none) : nxtP ds x y = (EntD.zero, false) := by unfold nxtP; rw [if_pos h, hf]
theorem beh_less {e : EntD} {x y : Int} : behB e x y = (!lessB e x y && ((e.h != x) || (e.i != y))) := by
  unfold behB lessB
  rw [Bool.eq_iff_iff]
  simp only [Bool.or_eq_true, Bool.and_eq_true, decide_eq_true_eq, Bool.not_eq_true', bne_iff_ne, ne_eq, Bool.or_eq_false_iff, Bool.and_eq_false_iff, decide_eq_false_iff_not]
  omega
theorem dir12 {ds : List EntD} (h : dirOkB ds = true) : ds.length ≤ 12 := (dirOkB_iff.1 h).1

end Go.Proofs.YtlgjehdocppofaaDoor
