/- Grep of the program: the closure made in a drawn region. -/
import Derived.Test.YthdbomkddpnhaaaGreatDoorPGrepV
import Derived.Test.YthdbomkddpnhaaaGreatDoorPRegH
namespace Go.Proofs.YthdbomkddpnhaaaGreatDoor
open Go Go.RowKit

/-- Is something sought at all? -/
def someB (p : ByteArray) : Bool := decide (p.size ≠ 0)
theorem some_no {p : ByteArray} (h : p.size = 0) : p = ⟨#[]⟩ ∧ someB p = false := by
 constructor
 ·apply ByteArray.ext; exact Array.eq_empty_of_size_eq_zero h
 ·unfold someB; simp [h]
theorem some_yes {p : ByteArray} (h : p.size ≠ 0) : p.toList.isEmpty = false ∧ someB p = true := by
 constructor
 ·exact not_empty p (by omega)
 ·unfold someB; simp [h]
/-- What Grep gives. -/
noncomputable def grepW (V : VolD) (s t : ByteArray) : List ByteArray × Int := soughtW V s (someB t) fun _ x => grepB t x

set_option maxRecDepth 100000 in
set_option maxHeartbeats 4000000 in
theorem grep_impl_yes (v : Value) (V : VolD) (sm : szV V ≤ 1048576) (s : ByteArray) (hs : s.size ≤ 2000000) (t : ByteArray) (ht : t.size ≤ 2000000) (hp0 : t.size ≠ 0) (w : World) (hT : TabM w) (hC : IsVolC w v V) :
  Calls Tryz.prog 45 #[v, .string s, .string t] w (ListPost w (soughtW V s true fun _ x => grepB t x)) := by
 have hp1 := (some_yes hp0).1
 have hp2 : ¬ t.toList = [] := by intro e; rw [e] at hp1; cases hp1
 have Hs := Lib.hid (fun B W hT hC hB => sought_grep v V sm s hs true _ ht B W hT hC hB)
 have hvv := Lib.hid hC
 have HT := Lib.hid hT
 obtain ⟨A, c, rfl, _⟩ := hC
 obtain ⟨nx, xs⟩ := V
 simp only at Hs ⊢
 clear sm hT
 obtain ⟨R, hR⟩ : ∃ R, (soughtW ⟨nx, xs⟩ s true fun _ x => grepB t x) = R := ⟨_, rfl⟩
 rw [hR] at Hs ⊢
 clear hR
 obtain ⟨l, q⟩ := R
 obtain ⟨W1, hW1⟩ : ∃ W1, w.alloc (.cells #[.int .i64 nx, .slice A xs.length c] 30) = W1 := ⟨_, rfl⟩
 have B1 : Below w.heap.size w W1 := by rw [← hW1]; exact belA (bel0 w) _
 have hV : Blk W1 w.heap.size 30 #[.int .i64 nx, .slice A xs.length c] := by rw [← hW1]; exact Blk.new' _ _ _ _ rfl
 have HW1 := Lib.hid hW1
 have S1 : W1.heap.size = w.heap.size + 1 := by rw [← hW1]; simp
 have HS1 := Lib.hid S1
 have V0 := hV.get (x := .int .i64 nx) 0 rfl
 have V1 := hV.get (x := .slice A xs.length c) 1 rfl
 clear hW1 hV S1
 obtain ⟨W2, hW2⟩ : ∃ W2, W1.alloc (.cells #[.string t] 9) = W2 := ⟨_, rfl⟩
 have b2 : Below W1.heap.size W1 W2 := by rw [← hW2]; exact belA (bel0 W1) _
 have hP : Blk W2 W1.heap.size 9 #[.string t] := by rw [← hW2]; exact Blk.new' _ _ _ _ rfl
 have HW2 := Lib.hid hW2
 have B2 := belN B1 b2
 have v0 := keep1 b2 V0 (Nat.le_refl _)
 have v1 := keep1 b2 V1 (Nat.le_refl _)
 have v2 := hP.get (x := .string t) 0 rfl
 clear hW2 hP V0 V1
 have hmf : ∀ (fn : Fn) (first cap : Array Value) (w : World), (Instr.makeFunc fn first cap).run Tryz.prog w = .ok (.func fn first cap) w := fun _ _ _ _ => rfl
 go_enter Tryz.func45, Tryz.ntmps45
 go_wp2_with fail
 rw [HW1.out]
 try rw [← HS1.out]
 rw [HW2.out]
 go_wp2_with fail
 first
  | (refine (Hs.out W1.heap.size _ (HT.out.bl B2) (hvv.out.next B2) v2).mono ?_; rintro e w6 ⟨hb6, u, rfl, own6⟩)
  | (go_wp2_with (go_at_call 105; refine (Hs.out W1.heap.size _ (HT.out.bl B2) (hvv.out.next B2) v2).mono ?_; rintro e w6 ⟨hb6, u, rfl, own6⟩))
 all_goals
  have B6 := belN B2 hb6
  have own := own_more own6 B2.size
  clear own6
  go_wp2
  refine bodyPost_ret (v := .tuple #[u, .int .i64 q]) (by simp [results, Tryz.results45, go_sem]) rfl ⟨?_, u, rfl, own⟩
  repeat (first | exact B6 | refine belA ?_ _ | apply Below.drew)

set_option maxRecDepth 100000 in
set_option maxHeartbeats 4000000 in
theorem grep_impl_no (v : Value) (V : VolD) (sm : szV V ≤ 1048576) (s : ByteArray) (hs : s.size ≤ 2000000) (t : ByteArray) (ht : t.size ≤ 2000000) (hp0 : t = ⟨#[]⟩) (w : World) (hT : TabM w) (hC : IsVolC w v V) :
  Calls Tryz.prog 45 #[v, .string s, .string t] w (ListPost w (soughtW V s false fun _ x => grepB t x)) := by
 subst hp0
 have Hs := Lib.hid (fun B W hT hC hB => sought_grep v V sm s hs false _ ht B W hT hC hB)
 have hvv := Lib.hid hC
 have HT := Lib.hid hT
 obtain ⟨A, c, rfl, _⟩ := hC
 obtain ⟨nx, xs⟩ := V
 simp only at Hs ⊢
 clear sm hT
 obtain ⟨R, hR⟩ : ∃ R, (soughtW ⟨nx, xs⟩ s false fun _ x => grepB ⟨#[]⟩ x) = R := ⟨_, rfl⟩
 rw [hR] at Hs ⊢
 clear hR
 obtain ⟨l, q⟩ := R
 obtain ⟨W1, hW1⟩ : ∃ W1, w.alloc (.cells #[.int .i64 nx, .slice A xs.length c] 30) = W1 := ⟨_, rfl⟩
 have B1 : Below w.heap.size w W1 := by rw [← hW1]; exact belA (bel0 w) _
 have hV : Blk W1 w.heap.size 30 #[.int .i64 nx, .slice A xs.length c] := by rw [← hW1]; exact Blk.new' _ _ _ _ rfl
 have HW1 := Lib.hid hW1
 have S1 : W1.heap.size = w.heap.size + 1 := by rw [← hW1]; simp
 have HS1 := Lib.hid S1
 have V0 := hV.get (x := .int .i64 nx) 0 rfl
 have V1 := hV.get (x := .slice A xs.length c) 1 rfl
 clear hW1 hV S1
 obtain ⟨W2, hW2⟩ : ∃ W2, W1.alloc (.cells #[.string ⟨#[]⟩] 9) = W2 := ⟨_, rfl⟩
 have b2 : Below W1.heap.size W1 W2 := by rw [← hW2]; exact belA (bel0 W1) _
 have hP : Blk W2 W1.heap.size 9 #[.string ⟨#[]⟩] := by rw [← hW2]; exact Blk.new' _ _ _ _ rfl
 have HW2 := Lib.hid hW2
 have B2 := belN B1 b2
 have v0 := keep1 b2 V0 (Nat.le_refl _)
 have v1 := keep1 b2 V1 (Nat.le_refl _)
 have v2 := hP.get (x := .string ⟨#[]⟩) 0 rfl
 clear hW2 hP V0 V1
 have hmf : ∀ (fn : Fn) (first cap : Array Value) (w : World), (Instr.makeFunc fn first cap).run Tryz.prog w = .ok (.func fn first cap) w := fun _ _ _ _ => rfl
 go_enter Tryz.func45, Tryz.ntmps45
 go_wp2_with fail
 rw [HW1.out]
 try rw [← HS1.out]
 rw [HW2.out]
 go_wp2_with fail
 first
  | (refine (Hs.out W1.heap.size _ (HT.out.bl B2) (hvv.out.next B2) v2).mono ?_; rintro e w6 ⟨hb6, u, rfl, own6⟩)
  | (go_wp2_with (go_at_call 105; refine (Hs.out W1.heap.size _ (HT.out.bl B2) (hvv.out.next B2) v2).mono ?_; rintro e w6 ⟨hb6, u, rfl, own6⟩))
 all_goals
  have B6 := belN B2 hb6
  have own := own_more own6 B2.size
  clear own6
  go_wp2
  refine bodyPost_ret (v := .tuple #[u, .int .i64 q]) (by simp [results, Tryz.results45, go_sem]) rfl ⟨?_, u, rfl, own⟩
  repeat (first | exact B6 | refine belA ?_ _ | apply Below.drew)

theorem grep_impl2 (v : Value) (V : VolD) (sm : szV V ≤ 1048576) (s t : ByteArray) (hs : s.size ≤ 2000000) (ht : t.size ≤ 2000000) (w : World) (hT : TabM w) (hC : IsVolC w v V) :
  Calls Tryz.prog 45 #[v, .string s, .string t] w (ListPost w (grepW V s t)) := by
 unfold grepW
 by_cases h : t.size = 0
 ·rw [(some_no h).2]; exact grep_impl_no v V sm s hs t ht (some_no h).1 w hT hC
 ·rw [(some_yes h).2]; exact grep_impl_yes v V sm s hs t ht h w hT hC

end Go.Proofs.YthdbomkddpnhaaaGreatDoor

