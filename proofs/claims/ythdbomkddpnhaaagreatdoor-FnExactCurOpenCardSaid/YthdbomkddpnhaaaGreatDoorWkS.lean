/- The reference's look into a volume: l6Dir, l6Ents, CallOk. -/
import Derived.Test.YthdbomkddpnhaaaGreatDoorWkI
import Derived.Test.YthdbomkddpnhaaaGreatDoorCpV
import Derived.Test.YthdbomkddpnhaaaGreatDoorVolOk
namespace Go.Proofs.YthdbomkddpnhaaaGreatDoor
open Go Go.RowKit

theorem id_small {nx : Int} {xs : List InoD} (hv : VolP nx xs) {a : Int} (h : 0 ≤ plc xs a) : 1 ≤ a ∧ a ≤ 100000 := by
  obtain ⟨k, hk, _, rfl⟩ := plc_lt h
  have h1 := hv.rows k hk
  have h2 := hv.next
  omega

theorem l1In_t (a b c : Int) (h : inI a b c = true) (w : World) : Calls Tryz.prog 115 #[.int .i64 a, .int .i64 b, .int .i64 c] w fun e w' => e = .returned (.bool true) ∧ w' = w := by
  have := l1In_q a b c w
  rw [h] at this; exact this

set_option maxRecDepth 100000 in
set_option maxHeartbeats 2000000 in
theorem callOk_look (a : Int) (s : ByteArray) (ha : 0 ≤ a ∧ a ≤ 100000) (hs : s.size ≤ 24) (w : World) :
    Calls Tryz.prog 260 #[.agg #[.int .i64 8, .int .i64 a, .string s, .int .i64 0, .string ⟨#[]⟩, .string ⟨#[]⟩]] w fun e w' => e = .returned (.bool true) ∧ Below w.heap.size w w' := by
  have hi : inI a 0 100000 = true := by simp [inI]; omega
  have h24 : decide ((24 : Int) < (s.size : Int)) = false := by simp; omega
  go_enter Tryz.func260, Tryz.ntmps260
  go_wp2_with fail
  refine (l1In_t 8 1 8 rfl _).mono ?_
  rintro e w5 ⟨rfl, h5⟩
  rw [h5]
  clear h5 w5
  go_wp2_with fail
  refine (l1In_t a 0 100000 hi _).mono ?_
  rintro e w5 ⟨rfl, h5⟩
  rw [h5]
  clear h5 w5
  go_wp2_with fail
  refine (l1In_t 0 0 100000 rfl _).mono ?_
  rintro e w5 ⟨rfl, h5⟩
  rw [h5]
  clear h5 w5
  go_wp2
  go_ret
  exact ⟨rfl, belA (bel0 w) _⟩

set_option maxRecDepth 100000 in
set_option maxHeartbeats 4000000 in
theorem l6Dir_any (v : Value) (V : VolD) (hn : V.xs.length ≤ 10000000) (a : Int) (w : World) (hC : IsVolC w v V) :
    Calls Tryz.prog 261 #[v, .int .i64 a] w fun e w' => e = .returned (.bool (bgP V.xs a == 0)) ∧ Below w.heap.size w w' := by
  have Hat := Lib.hid (fun W hW => l6At_any v V hn a W hW)
  have hv := Lib.hid hC
  have h := hC.is
  obtain ⟨A, c, rfl, h⟩ := h
  obtain ⟨nx, xs⟩ := V
  simp only at Hat h hn ⊢
  have H := Lib.hid h
  clear h hC
  obtain ⟨n, hn'⟩ : ∃ n, xs.length = n := ⟨_, rfl⟩
  have HL := Lib.hid hn'
  simp only [hn'] at Hat hv H hn ⊢
  clear hn'
  obtain ⟨W1, hW1⟩ : ∃ W1, w.alloc (.cells #[.int .i64 nx, .slice A n c] 30) = W1 := ⟨_, rfl⟩
  have B1 : Below w.heap.size w W1 := by rw [← hW1]; exact belA (bel0 w) _
  have hV : Blk W1 w.heap.size 30 #[.int .i64 nx, .slice A n c] := by rw [← hW1]; exact Blk.new' _ _ _ _ rfl
  have HW1 := Lib.hid hW1
  have V1 := Lib.hid (hV.get 1 rfl)
  clear hW1 hV
  rcases plc_cases xs a with ⟨hp, _⟩ | ⟨k, hkx, hp, _⟩
  · have Hb := Lib.hid (show (bgP xs a == 0) = false by rw [bg_none hp]; rfl)
    simp only [hp] at Hat
    clear hp
    go_enter Tryz.func261, Tryz.ntmps261
    go_wp2_with fail
    rw [HW1.out]
    refine (Hat.out W1 (hv.out.next B1).is).mono ?_
    rintro e w2 ⟨rfl, hb2⟩
    go_wp2
    go_ret
    exact ⟨ret_bool Hb.out.symm, belN B1 hb2⟩
  · have Hb := Lib.hid (bg_at hkx hp)
    have hkn : k < n := by have := HL.out; omega
    simp only [hp] at Hat
    clear hp
    have q0 : (0 : Int) ≤ ↑k := by omega
    have q1 : (↑k : Int) < ↑n := by omega
    obtain ⟨y, hy⟩ : ∃ y, xs[k].kd = y := ⟨_, rfl⟩
    have Hb2 := Lib.hid (show (bgP xs a == 0) = (y == 2) by
      rw [Hb.out, hy]; by_cases h : y = 2
      · subst h; rfl
      · rw [if_neg h, Bool.eq_iff_iff]; simp [h])
    go_enter Tryz.func261, Tryz.ntmps261
    go_wp2_with fail
    rw [HW1.out]
    refine (Hat.out W1 (hv.out.next B1).is).mono ?_
    rintro e w2 ⟨rfl, hb2⟩
    have v1 := keep1 hb2 V1.out (Nat.le_refl _)
    obtain ⟨_, b, o, A', c', rfl, hadb, z0, z1, z2, z3, z4, hrow⟩ := (H.out.next (belN B1 hb2)).at_ hkn
    rw [hy] at z1
    clear z0 z2 z3 z4 hrow hy
    go_wp2
    go_ret
    exact ⟨ret_bool Hb2.out.symm, belN B1 hb2⟩

set_option maxRecDepth 100000 in
set_option maxHeartbeats 4000000 in
theorem l6Ents_any (v : Value) (V : VolD) (hn : V.xs.length ≤ 10000000) (a : Int) (k : Nat) (hk : k < V.xs.length) (hp : plc V.xs a = (k : Int)) (w : World) (hC : IsVolC w v V) :
    Calls Tryz.prog 308 #[v, .int .i64 a] w fun e w' => ∃ A' c', e = .returned (.slice A' V.xs[k].es.length c') ∧ Reads w w.heap.size 4 A' V.xs[k].es.length (ES V.xs[k].es) ∧ Below w.heap.size w w' := by
  have Hat := Lib.hid (fun W hW => l6At_any v V hn a W hW)
  simp only [hp] at Hat
  have hv := Lib.hid hC
  have h := hC.is
  obtain ⟨A, c, rfl, h⟩ := h
  obtain ⟨nx, xs⟩ := V
  simp only at Hat h hn hk ⊢
  have H := Lib.hid h
  clear h hC hp
  obtain ⟨n, hn'⟩ : ∃ n, xs.length = n := ⟨_, rfl⟩
  have hkn : k < n := by omega
  simp only [hn'] at Hat hv H hn ⊢
  clear hn'
  have q0 : (0 : Int) ≤ ↑k := by omega
  have q1 : (↑k : Int) < ↑n := by omega
  obtain ⟨W1, hW1⟩ : ∃ W1, w.alloc (.cells #[.int .i64 nx, .slice A n c] 30) = W1 := ⟨_, rfl⟩
  have B1 : Below w.heap.size w W1 := by rw [← hW1]; exact belA (bel0 w) _
  have hV : Blk W1 w.heap.size 30 #[.int .i64 nx, .slice A n c] := by rw [← hW1]; exact Blk.new' _ _ _ _ rfl
  have HW1 := Lib.hid hW1
  have v0 := hV.get 0 rfl
  have v1 := hV.get 1 rfl
  clear hW1 hV
  obtain ⟨_, b, o, A', c', hA, hadb, _, _, _, _, z4', hrow⟩ := H.out.at_ hkn
  subst hA
  have z4 := keep1 B1 z4' (Nat.le_refl _)
  obtain ⟨m, hm⟩ : ∃ m, xs[k].es.length = m := ⟨_, rfl⟩
  rw [hm] at z4 hrow ⊢
  have Hrow := Lib.hid hrow
  clear z4' hm hrow
  go_enter Tryz.func308, Tryz.ntmps308
  go_wp2_with fail
  rw [HW1.out]
  go_region_held3 (fun w' => w'.cell? ⟨w.heap.size, 0, none⟩ = some (.int .i64 nx) ∧ w'.cell? ⟨w.heap.size, 1, none⟩ = some (.slice (some ⟨b, o, none⟩) n c) ∧ w'.cell? ⟨b, o + k * 5 + 4, none⟩ = some (.slice A' m c'))
    (first | go_keep | (refine ⟨keep1 hb5 ?_, keep1 hb5 ?_, keep1 hb5 ?_⟩ <;> go_keep))
    (first | (go_at_call 66; refine (Hat.out _ (hv.out.next B1.drew).is).mono ?_; rintro e w5 ⟨rfl, hb5⟩))
  go_wp2
  go_ret
  exact ⟨A', c', rfl, Hrow.out, belN B1.drew hb5⟩

end Go.Proofs.YthdbomkddpnhaaaGreatDoor
