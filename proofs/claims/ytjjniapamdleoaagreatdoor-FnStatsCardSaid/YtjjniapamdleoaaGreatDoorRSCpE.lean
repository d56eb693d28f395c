/- Copies of rows of entries, in both packages. -/
import Derived.Test.YtjjniapamdleoaaGreatDoorRSStrs
namespace Go.Proofs.YtjjniapamdleoaaGreatDoor
open Go Go.RowKit
set_option maxHeartbeats 1000000

theorem own_nilC (w : World) (base size : Nat) (e : TypeId) : w.ownsRow base e size (.slice none 0 0) 0 [] := ⟨by simp, .inl ⟨rfl, rfl⟩⟩
theorem copyEnts_impl (A : Option Addr) (n c : Nat) (ds : List EntD) (hn : n <= 100000) (w : World) (hr : Reads w w.heap.size 4 A n (ES ds)) :
  Calls Tryz.prog 145 #[.slice A n c] w fun e w' => ∃ v, e = .returned v /\ w'.ownsRow w.heap.size 38 4 v n (ES ds) /\ Below w.heap.size w w' := by
 have Hr := Lib.hid hr
 clear hr
 go_enter Tryz.func145, Tryz.ntmps145
 go_wp2_with (at_builtin; refine wpList_app _ rfl _ _ _ rfl Tryz.el_ent (own_nilC _ w.heap.size 4 _) rfl Hr.out rfl (ES_cells _) (by unfold maxLen; omega) (by omega) (Nat.le_refl _) ?_; intro v1 w1 own1 _ _ hb1; rw [Nat.zero_add, List.nil_append] at own1; have Own1 := Lib.hid own1; clear own1)
 go_ret
 exact ⟨_, rfl, Own1.out, hb1⟩

theorem l5Copy_any (A : Option Addr) (n c : Nat) (ds : List EntD) (hn : n <= 100000) (w : World) (hr : Reads w w.heap.size 4 A n (ES ds)) :
  Calls Tryz.prog 118 #[.slice A n c] w fun e w' => ∃ v, e = .returned v /\ w'.ownsRow w.heap.size 38 4 v n (ES ds) /\ Below w.heap.size w w' := by
 have Hr := Lib.hid hr
 clear hr
 have hlit := World.ownsRow_lit (e := 38) (size := 4) w #[] 0 (Nat.le_refl _) (by unfold maxLen; omega) rfl
 go_enter Tryz.func118, Tryz.ntmps118
 go_wp2_with (at_builtin; refine wpList_app _ rfl _ _ _ rfl Tryz.el_ent hlit rfl ((Hr.out.below (belA (bel0 w) _)).more (Nat.le_succ _)) rfl (ES_cells _) (by unfold maxLen; omega) (by omega) (by simp) ?_; intro v1 w1 own1 _ _ hb1; rw [Nat.zero_add] at own1; have Own1 := Lib.hid own1; clear own1)
 go_ret
 exact ⟨_, rfl, Own1.out, (belA (bel0 w) _).trans hb1⟩

end Go.Proofs.YtjjniapamdleoaaGreatDoor
