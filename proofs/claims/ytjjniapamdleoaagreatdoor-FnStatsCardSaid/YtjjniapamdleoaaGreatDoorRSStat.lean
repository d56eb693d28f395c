/- The fullest directory; how many of a kind; in both packages. -/
import Derived.Test.YtjjniapamdleoaaGreatDoorRSVolOk
namespace Go.Proofs.YtjjniapamdleoaaGreatDoor
open Go Go.RowKit
set_option maxHeartbeats 2000000
set_option maxRecDepth 100000

/-- The most entries of the first so many. -/
def fullN (xs : List InoD) : Nat -> Nat
 | 0 => 0
 | k + 1 => match xs[k]? with | none => fullN xs k | some x => max (fullN xs k) x.es.length
theorem fullN_succ {xs : List InoD} {k : Nat} (hk : k < xs.length) : fullN xs (k + 1) = max (fullN xs k) xs[k].es.length := by
 rw [fullN, List.getElem?_eq_getElem hk]
theorem fullN_le {xs : List InoD} {m : Nat} (h : ∀ x ∈ xs, x.es.length <= m) : ∀ k, fullN xs k <= m
 | 0 => Nat.zero_le _
 | k + 1 => by
  have ih := fullN_le h k
  rw [fullN]
  split
  ·exact ih
  ·rename_i x hx
   have := h x (List.mem_of_getElem? hx)
   omega
noncomputable def fullP (V : VolD) : Int := if volOkB V.nx V.xs = true then (fullN V.xs V.xs.length : Int) else 0
def kindN (xs : List InoD) (q : Int) : Nat -> Nat
 | 0 => 0
 | k + 1 => match xs[k]? with | none => kindN xs q k | some x => if x.kd = q then kindN xs q k + 1 else kindN xs q k
theorem kindN_yes {xs : List InoD} {q : Int} {k : Nat} (hk : k < xs.length) (h : xs[k].kd = q) : kindN xs q (k + 1) = kindN xs q k + 1 := by
 rw [kindN, List.getElem?_eq_getElem hk]; simp [h]
theorem kindN_no {xs : List InoD} {q : Int} {k : Nat} (hk : k < xs.length) (h : xs[k].kd ≠ q) : kindN xs q (k + 1) = kindN xs q k := by
 rw [kindN, List.getElem?_eq_getElem hk]; simp [h]
theorem kindN_le (xs : List InoD) (q : Int) : ∀ k, kindN xs q k <= k
 | 0 => Nat.le_refl _
 | k + 1 => by
  have ih := kindN_le xs q k
  rw [kindN]
  split
  ·omega
  ·split <;> omega
noncomputable def kindP (V : VolD) (q : Int) : Int := if volOkB V.nx V.xs = true then (kindN V.xs q V.xs.length : Int) else 0

theorem fullOf_impl (v : Value) (V : VolD) (sm : szV V <= 1048576) (w : World) (hT : Tab w) (hC : IsVolC w v V) :
  Calls Tryz.prog 18 #[v] w fun e w' => e = .returned (.int .i64 (fullP V)) /\ Below w.heap.size w w' := by
 have Hok := Lib.hid (fun W hT hW => volOk_impl v V sm W hT hW)
 have hv := Lib.hid hC
 have hn := v_len sm
 have Hrs := Lib.hid (v_rows sm)
 have HT := Lib.hid hT
 have h := hC.is
 obtain ⟨A, c, rfl, h⟩ := h
 obtain ⟨nx, xs⟩ := V
 simp only at h hn Hok Hrs ⊢
 have H := Lib.hid h
 clear h hT sm hC
 obtain ⟨n, hn'⟩ : ∃ n, xs.length = n := ⟨_, rfl⟩
 have HL := Lib.hid hn'
 simp only [hn'] at H hn Hok hv ⊢
 clear hn'
 obtain ⟨W1, hW1⟩ : ∃ W1, w.alloc (.cells #[.int .i64 nx, .slice A n c] 26) = W1 := ⟨_, rfl⟩
 have B1 : Below w.heap.size w W1 := by rw [<- hW1]; exact belA (bel0 w) _
 have hV : Blk W1 w.heap.size 26 #[.int .i64 nx, .slice A n c] := by rw [<- hW1]; exact Blk.new' _ _ _ _ rfl
 have HW1 := Lib.hid hW1
 have V1 := Lib.hid (hV.get 1 rfl)
 have H1 := Lib.hid ((H.out.below B1).more B1.size)
 clear hW1 hV
 rcases hok : volOkB nx xs with _ | _
 ·have Hf := Lib.hid (show fullP ⟨nx, xs⟩ = 0 by unfold fullP; simp [hok])
  go_enter Tryz.func18, Tryz.ntmps18
  go_wp2_with fail
  rw [HW1.out]
  refine (Hok.out W1 (HT.out.bl B1) (hv.out.next B1)).mono ?_
  rintro e w2 ⟨rfl, hb2⟩
  rw [hok]
  go_wp2
  go_ret
  exact ⟨ret_int Hf.out.symm, belN B1 hb2⟩
 ·have Hf := Lib.hid (show fullP ⟨nx, xs⟩ = (fullN xs n : Nat) by unfold fullP; simp [hok, HL.out])
  go_enter Tryz.func18, Tryz.ntmps18
  go_wp2_with fail
  rw [HW1.out]
  refine (Hok.out W1 (HT.out.bl B1) (hv.out.next B1)).mono ?_
  rintro e w2 ⟨rfl, hb2⟩
  rw [hok]
  have v1 := kp_ hb2 V1.out
  go_wp2
  clear v1 hok
  go_loopw [3, 12] (fun m i wr => ∃ (k : Nat) (q : Int), k <= n /\ i = .int .i64 k /\ m = .int .i64 q /\ Hid (q = (fullN xs k : Nat)) /\ Below W1.heap.size W1 wr)
   (fun _ i _ => n - (intOf i).toNat)
  case atStart => exact ⟨0, 0, by omega, rfl, rfl, rfl, hb2⟩
  case round =>
   obtain ⟨k, q, hk, rfl, rfl, hq, hbel⟩ := hrel
   by_cases hlt : k < n
   ·obtain ⟨hkx, b, o, A', c', rfl, hadb, z0, z1, z2, z3, z4, hrow⟩ := (H1.out.below hbel).at_ hlt
    have q0 : (0 : Int) <= ↑k := by omega
    have q1 : (↑k : Int) < ↑n := by omega
    have Hs := Lib.hid (fullN_succ hkx)
    obtain ⟨l, hl⟩ : ∃ l, xs[k].es.length = l := ⟨_, rfl⟩
    rw [hl] at z4 Hs
    clear hrow hl
    by_cases hm : q < (l : Int)
    ·have hmx : max q (l : Int) = (l : Int) := by omega
     go_wp2
     go_roundw
     case rel => exact ⟨k + 1, l, by omega, by go_num, by first | rfl | rw [hmx] | (rw [Int.max_def]; simp; omega), by have := hq.out; have := Hs.out; show _ = _; omega, hbel.alloc hbel.size _⟩
     case measure => simp [intOf]; omega
    ·have hmx : max q (l : Int) = q := by omega
     go_wp2
     go_roundw
     case rel => exact ⟨k + 1, q, by omega, by go_num, by first | rfl | rw [hmx] | (rw [Int.max_def]; simp; omega), by have := hq.out; have := Hs.out; show _ = _; omega, hbel.alloc hbel.size _⟩
     case measure => simp [intOf]; omega
   ·obtain rfl : k = n := by omega
    go_wp2
    go_ret
    exact ⟨ret_int (by rw [Hf.out]; exact hq.out), belN B1 hbel⟩

theorem kindOf_impl (v : Value) (V : VolD) (sm : szV V <= 1048576) (kd : Int) (w : World) (hT : Tab w) (hC : IsVolC w v V) :
  Calls Tryz.prog 17 #[v, .int .i64 kd] w fun e w' => e = .returned (.int .i64 (kindP V kd)) /\ Below w.heap.size w w' := by
 have Hok := Lib.hid (fun W hT hW => volOk_impl v V sm W hT hW)
 have hv := Lib.hid hC
 have hn := v_len sm
 have Hrs := Lib.hid (v_rows sm)
 have HT := Lib.hid hT
 have h := hC.is
 obtain ⟨A, c, rfl, h⟩ := h
 obtain ⟨nx, xs⟩ := V
 simp only at h hn Hok Hrs ⊢
 have H := Lib.hid h
 clear h hT sm hC
 obtain ⟨n, hn'⟩ : ∃ n, xs.length = n := ⟨_, rfl⟩
 have HL := Lib.hid hn'
 simp only [hn'] at H hn Hok hv ⊢
 clear hn'
 obtain ⟨W1, hW1⟩ : ∃ W1, w.alloc (.cells #[.int .i64 nx, .slice A n c] 26) = W1 := ⟨_, rfl⟩
 have B1 : Below w.heap.size w W1 := by rw [<- hW1]; exact belA (bel0 w) _
 have hV : Blk W1 w.heap.size 26 #[.int .i64 nx, .slice A n c] := by rw [<- hW1]; exact Blk.new' _ _ _ _ rfl
 have HW1 := Lib.hid hW1
 have V1 := Lib.hid (hV.get 1 rfl)
 have H1 := Lib.hid ((H.out.below B1).more B1.size)
 clear hW1 hV
 rcases hok : volOkB nx xs with _ | _
 ·have Hf := Lib.hid (show kindP ⟨nx, xs⟩ kd = 0 by unfold kindP; simp [hok])
  go_enter Tryz.func17, Tryz.ntmps17
  go_wp2_with fail
  rw [HW1.out]
  refine (Hok.out W1 (HT.out.bl B1) (hv.out.next B1)).mono ?_
  rintro e w2 ⟨rfl, hb2⟩
  rw [hok]
  go_wp2
  go_ret
  exact ⟨ret_int Hf.out.symm, belN B1 hb2⟩
 ·have Hf := Lib.hid (show kindP ⟨nx, xs⟩ kd = (kindN xs kd n : Nat) by unfold kindP; simp [hok, HL.out])
  go_enter Tryz.func17, Tryz.ntmps17
  go_wp2_with fail
  rw [HW1.out]
  refine (Hok.out W1 (HT.out.bl B1) (hv.out.next B1)).mono ?_
  rintro e w2 ⟨rfl, hb2⟩
  rw [hok]
  have v1 := kp_ hb2 V1.out
  go_wp2
  clear v1 hok
  go_loopw [5, 14] (fun m i wr => ∃ (k : Nat) (q : Int), k <= n /\ i = .int .i64 k /\ m = .int .i64 q /\ Hid (q = (kindN xs kd k : Nat)) /\ Below W1.heap.size W1 wr)
   (fun _ i _ => n - (intOf i).toNat)
  case atStart => exact ⟨0, 0, by omega, rfl, rfl, rfl, hb2⟩
  case round =>
   obtain ⟨k, q, hk, rfl, rfl, hq, hbel⟩ := hrel
   have hqb : q <= 10000000 := by have := kindN_le xs kd k; have := hq.out; omega
   have hq0 : 0 <= q := by have := hq.out; omega
   by_cases hlt : k < n
   ·obtain ⟨hkx, b, o, A', c', rfl, hadb, z0, z1, z2, z3, z4, hrow⟩ := (H1.out.below hbel).at_ hlt
    have q0 : (0 : Int) <= ↑k := by omega
    have q1 : (↑k : Int) < ↑n := by omega
    clear hrow
    by_cases hm : xs[k].kd = kd
    ·have hm2 : (xs[k].kd == kd) = true := by simpa using hm
     have Hs := Lib.hid (kindN_yes hkx hm)
     clear hm
     go_wp2
     go_roundw
     case rel => exact ⟨k + 1, q + 1, by omega, by go_num, by go_num, by have := hq.out; have := Hs.out; show _ = _; omega, hbel.alloc hbel.size _⟩
     case measure => simp [intOf]; omega
    ·have hm2 : (xs[k].kd == kd) = false := by simpa using hm
     have Hs := Lib.hid (kindN_no hkx hm)
     clear hm
     go_wp2
     go_roundw
     case rel => exact ⟨k + 1, q, by omega, by go_num, rfl, by have := hq.out; have := Hs.out; show _ = _; omega, hbel.alloc hbel.size _⟩
     case measure => simp [intOf]; omega
   ·obtain rfl : k = n := by omega
    go_wp2
    go_ret
    exact ⟨ret_int (by rw [Hf.out]; exact hq.out), belN B1 hbel⟩

end Go.Proofs.YtjjniapamdleoaaGreatDoor
