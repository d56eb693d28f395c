/- DpNext, DpOk. -/
import Derived.Test.YtpnmmigoencbdaaDoorDir
import Derived.Test.YtpnmmigoencbdaaDoorPgOk
import Derived.Test.YtpnmmigoencbdaaDoorIsPg
namespace Go.Proofs.YtpnmmigoencbdaaDoor
open Go Go.RowKit

def EntD.zero : EntD := ⟨0, 0, ⟨#[]⟩, 0⟩
/-- An entry and whether there is one. -/
def EntPost (P : EntD × Bool) (e : Ending) : Prop := ∃ E fb, P = (E, fb) ∧ e = .returned (.tuple #[.agg #[.int .i64 E.h, .int .i64 E.i, .string E.s, .int .i64 E.d], .bool fb])
theorem entPost_end {P : EntD × Bool} {E : EntD} {fb : Bool} {v : Value} (h : P = (E, fb)) (hv : v = .tuple #[.agg #[.int .i64 E.h, .int .i64 E.i, .string E.s, .int .i64 E.d], .bool fb]) : EntPost P (.returned v) := ⟨E, fb, h, by rw [hv]⟩
/-- The first entry behind a place. -/
noncomputable def nxtP (ds : List EntD) (x y : Int) : EntD × Bool := if dirOkB ds = true then (match ds.find? (fun e => behB e x y) with | some e => (e, true) | none => (EntD.zero, false)) else (EntD.zero, false)
theorem nxtP_bad {ds : List EntD} {x y : Int} (h : dirOkB ds = false) : nxtP ds x y = (EntD.zero, false) := by unfold nxtP; rw [if_neg (by rw [h]; simp)]
theorem nxtP_some {ds : List EntD} {x y : Int} {e : EntD} (h : dirOkB ds = true) (hf : ds.find? (fun e => behB e x y) = some e) : nxtP ds x y = (e, true) := by unfold nxtP; rw [if_pos h, hf]
theorem nxtP_none {ds : List EntD} {x y : Int} (h : dirOkB ds = true) (hf : ds.find? (fun e => behB e x y) = none) : nxtP ds x y = (EntD.zero, false) := by unfold nxtP; rw [if_pos h, hf]
theorem beh_less {e : EntD} {x y : Int} : behB e x y = (!lessB e x y && ((e.h != x) || (e.i != y))) := by
  unfold behB lessB
  rw [Bool.eq_iff_iff]
  simp only [Bool.or_eq_true, Bool.and_eq_true, decide_eq_true_eq, Bool.not_eq_true', bne_iff_ne, ne_eq, Bool.or_eq_false_iff, Bool.and_eq_false_iff, decide_eq_false_iff_not]
  omega
theorem dir12 {ds : List EntD} (h : dirOkB ds = true) : ds.length ≤ 12 := (dirOkB_iff.1 h).1


theorem PagesAt.next {w w' : World} {A : Option Addr} {n : Nat} {ps : List (List EntD)} (h : PagesAt w w.heap.size A n ps) (hb : Below w.heap.size w w') : PagesAt w' w'.heap.size A n ps := (h.below hb).more hb.size
/-- Pages are a directory. -/
noncomputable def dpOkB (ps : List (List EntD)) : Bool := okPB ps && dirOkB (pgL ps)
theorem dp_flat {ps : List (List EntD)} (sm : szSS ps ≤ 1048576) : ps.flatten.length ≤ 10000000 := by have := szSS_flat ps; omega
theorem dp_len {ps : List (List EntD)} (sm : szSS ps ≤ 1048576) : ps.length ≤ 10000000 := by have := szSS_len ps; omega
theorem dp_pgL {ps : List (List EntD)} (sm : szSS ps ≤ 1048576) : (pgL ps).length ≤ 10000000 := by have := pgL_len ps; have := dp_flat sm; omega
theorem dp_names {ps : List (List EntD)} (sm : szSS ps ≤ 1048576) : ∀ e ∈ pgL ps, e.s.size ≤ 2000000 := fun e he => by
  unfold pgL at he
  split at he
  · have := szSS_name ps e he; omega
  · cases he
theorem dirOk_nil : dirOkB [] = true := dirOkB_true ⟨by simp, fun i h => absurd h (by simp)⟩
theorem dp_no {ps : List (List EntD)} {x y : Int} (h : dpOkB ps = false) : nxtP (pgL ps) x y = (EntD.zero, false) := by
  unfold dpOkB at h
  cases ho : okPB ps
  · rw [pgL_no ho]; exact nxtP_none dirOk_nil rfl
  · rw [ho, Bool.true_and] at h; exact nxtP_bad h

end Go.Proofs.YtpnmmigoencbdaaDoor
