/- Find of the program: the closure made in a drawn region. -/
import Derived.Test.YthdbomkddpnhaaaGreatDoorPFindV
import Derived.Test.YthdbomkddpnhaaaGreatDoorPRegH
namespace Go.Proofs.YthdbomkddpnhaaaGreatDoor
open Go Go.RowKit

set_option maxRecDepth 100000 in
set_option maxHeartbeats 4000000 in
theorem find_impl (v : Value) (V : VolD) (sm : szV V ≤ 1048576) (s : ByteArray) (hs : s.size ≤ 2000000) (t : ByteArray) (ht : t.size ≤ 2000000) (w : World) (hT : Tab w) (hC : IsVolC w v V) :
  Calls Tryz.prog 43 #[v, .string s, .string t] w (ListPost w (soughtW V s (nameOkB t) fun e _ => globB t e.s)) := by
 have Hs := Lib.hid (fun ok B W hT hC hB => sought_find v V sm s hs ok t ht B W hT hC hB)
 have Hn := Lib.hid (fun W hT => nameOk_impl t ht W hT)
 have hvv := Lib.hid hC
 have HT := Lib.hid hT
 obtain ⟨A, c, rfl, _⟩ := hC
 obtain ⟨nx, xs⟩ := V
 simp only at Hs ⊢
 clear sm hT
 obtain ⟨ok, hok⟩ : ∃ ok, nameOkB t = ok := ⟨_, rfl⟩
 rw [hok] at Hn ⊢
 have Hs := Lib.hid (Hs.out ok)
 obtain ⟨R, hR⟩ : ∃ R, (soughtW ⟨nx, xs⟩ s ok fun e _ => globB t e.s) = R := ⟨_, rfl⟩
 rw [hR] at Hs ⊢
 clear hR hok
 obtain ⟨l, q⟩ := R
 obtain ⟨W1, hW1⟩ : ∃ W1, w.alloc (.cells #[.int .i64 nx, .slice A xs.length c] 30) = W1 := ⟨_, rfl⟩
 have B1 : Below w.heap.size w W1 := by rw [← hW1]; exact belA (bel0 w) _
 have hV : Blk W1 w.heap.size 30 #[.int .i64 nx, .slice A xs.length c] := by rw [← hW1]; exact Blk.new' _ _ _ _ rfl
 have HW1 := Lib.hid hW1
 have S1 : W1.heap.size = w.heap.size + 1 := by rw [← hW1]; simp
 have HS1 := Lib.hid S1
 have V0 := hV.get (x := .int .i64 nx) 0 rfl
 have V1 := hV.get (x := .slice A xs.length c) 1 rfl
 clear hW1 hV S1
 obtain ⟨W2, hW2⟩ : ∃ W2, W1.alloc (.cells #[.string t] 9) = W2 := ⟨_, rfl⟩
 have b2 : Below W1.heap.size W1 W2 := by rw [← hW2]; exact belA (bel0 W1) _
 have hP : Blk W2 W1.heap.size 9 #[.string t] := by rw [← hW2]; exact Blk.new' _ _ _ _ rfl
 have HW2 := Lib.hid hW2
 have B2 := belN B1 b2
 have v0 := keep1 b2 V0 (Nat.le_refl _)
 have v1 := keep1 b2 V1 (Nat.le_refl _)
 have v2 := hP.get (x := .string t) 0 rfl
 clear hW2 hP V0 V1
 have hmf : ∀ (fn : Fn) (first cap : Array Value) (w : World), (Instr.makeFunc fn first cap).run Tryz.prog w = .ok (.func fn first cap) w := fun _ _ _ _ => rfl
 go_enter Tryz.func43, Tryz.ntmps43
 go_wp2_with fail
 rw [HW1.out]
 try rw [← HS1.out]
 rw [HW2.out]
 go_region_held3 (fun w' => w'.cell? ⟨w.heap.size, 0, none⟩ = some (.int .i64 nx) ∧ w'.cell? ⟨w.heap.size, 1, none⟩ = some (.slice A xs.length c) ∧ w'.cell? ⟨W1.heap.size, 0, none⟩ = some (.string t))
  (first | go_keep | (refine ⟨keep1 hb6 ?_, keep1 hb6 ?_, keep1 hb6 ?_⟩ <;> go_keep) | (refine ⟨keep1 hb5 ?_, keep1 hb5 ?_, keep1 hb5 ?_⟩ <;> go_keep))
  (first
   | (go_at_call 106; refine (Hn.out _ (HT.out.bl B2.drew)).mono ?_; rintro e w5 ⟨rfl, hb5⟩)
   | (go_at_call 105; refine (Hs.out W1.heap.size _ (HT.out.bl (belN B2.drew hb5)) (hvv.out.next (belN B2.drew hb5)) (by go_keep)).mono ?_; rintro e w6 ⟨hb6, u, rfl, own6⟩))
 all_goals
  have B6 := belN (belN B2.drew hb5) hb6
  have own := own_more own6 (belN B2.drew hb5).size
  clear own6
  go_wp2
  refine bodyPost_ret (v := .tuple #[u, .int .i64 q]) (by simp [results, Tryz.results43, go_sem]) rfl ⟨?_, u, rfl, own⟩
  repeat (first | exact B6 | refine belA ?_ _ | apply Below.drew)

end Go.Proofs.YthdbomkddpnhaaaGreatDoor

