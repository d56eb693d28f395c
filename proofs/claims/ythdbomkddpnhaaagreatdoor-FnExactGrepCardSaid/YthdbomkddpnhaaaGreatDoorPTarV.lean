/- Archives of directories: Tar and SameTree of both packages. -/
import Derived.Test.YthdbomkddpnhaaaGreatDoorPTarP
import Derived.Test.YthdbomkddpnhaaaGreatDoorPRegH
import Derived.Test.YthdbomkddpnhaaaGreatDoorPCur
namespace Go.Proofs.YthdbomkddpnhaaaGreatDoor
open Go Go.RowKit

theorem cur_zero {V : VolD} {s : ByteArray} (h : (curP V s).2 = 0) : VolP V.nx V.xs ∧ ∃ x ∈ V.xs, x.kd = 2 ∧ x.id = (curP V s).1.d := by
 rcases cur_cases V s with ⟨h1, h2⟩ | ⟨h1, hv, k, hk, hpk, hid, ⟨hd, h2⟩ | ⟨hd, h2⟩⟩
 ·rw [h2] at h; exact absurd h h1
 ·rw [h2] at h; simp at h
 ·rw [h2]; exact ⟨hv, _, List.getElem_mem hk, hd, hid⟩

end Go.Proofs.YthdbomkddpnhaaaGreatDoor

