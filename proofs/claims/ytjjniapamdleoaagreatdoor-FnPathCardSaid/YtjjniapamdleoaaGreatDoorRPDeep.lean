/- How deep an inode is, in both packages. -/
import Derived.Test.YtjjniapamdleoaaGreatDoorRPVolOk
namespace Go.Proofs.YtjjniapamdleoaaGreatDoor
open Go Go.RowKit

def hasE (a : Int) (es : List EntD) : Bool := es.any (fun e => e.d == a)
/-- Whether one of the first so many has it. -/
def fndI (xs : List InoD) (a : Int) (k : Nat) : Bool := (xs.take k).any (fun x => hasE a x.es)
theorem fndI_all {xs : List InoD} {a : Int} : fndI xs a xs.length = true ↔ ∃ x ∈ xs, ∃ e ∈ x.es, e.d = a := by
 unfold fndI hasE
 rw [List.take_length, List.any_eq_true]
 simp only [List.any_eq_true, beq_iff_eq]
theorem hasE_iff {a : Int} {es : List EntD} : hasE a es = true ↔ ∃ e ∈ es, e.d = a := by unfold hasE; simp
theorem up_is {nx : Int} {xs : List InoD} (h : VolP nx xs) {x : InoD} (hx : x ∈ xs) {a : Int} (he : hasE a x.es = true) : IsDirI xs x.id := by
 obtain ⟨e, hm, _⟩ := hasE_iff.1 he
 exact ⟨x, hx, rfl, h.dir hx (List.ne_nil_of_mem hm)⟩
/-- Above a directory stands one alone. -/
theorem up_one {nx : Int} {xs : List InoD} (h : VolP nx xs) {a : Int} (ha : a ≠ 1) (hd : IsDirI xs a) : ∃ b, IsDirI xs b /\ dpt xs a = dpt xs b + 1 /\ fndI xs a xs.length = true /\ ∀ x ∈ xs, hasE a x.es = true -> x.id = b := by
 obtain ⟨x, hx, e, he, hea, hdx, hp, h1, _⟩ := dir_up h ha hd
 refine ⟨x.id, hdx, h1, fndI_all.2 ⟨x, hx, e, he, hea⟩, fun y hy hh => ?_⟩
 obtain ⟨f, hf, hfa⟩ := hasE_iff.1 hh
 have hm := pairs_mem.2 ⟨y, hy, f, hf, hfa, rfl⟩
 rw [hp, List.mem_singleton] at hm
 injection hm

end Go.Proofs.YtjjniapamdleoaaGreatDoor
