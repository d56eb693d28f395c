/- Archives of directories: plain Lean. -/
import Derived.Test.YtjjniapamdleoaaGreatDoorRCWkI
import Derived.Test.YtjjniapamdleoaaGreatDoorRCWkV3
import Derived.Test.YtjjniapamdleoaaGreatDoorRCLook2
import Derived.Test.YtjjniapamdleoaaGreatDoorRCLook
import Derived.Test.YtjjniapamdleoaaGreatDoorRCVolOk
namespace Go.Proofs.YtjjniapamdleoaaGreatDoor
open Go Go.RowKit
set_option maxHeartbeats 4000000
set_option maxRecDepth 100000

structure CurD where
 d : Int
 h : Int
 i : Int
/-- What CurOpen gives. -/
noncomputable def curP (V : VolD) (s : ByteArray) : CurD × Int :=
 if (walkP V (spB s)).2 ≠ 0 then (⟨0, 0, 0⟩, (walkP V (spB s)).2)
 else match V.xs[(plc V.xs (walkP V (spB s)).1).toNat]? with
  | none => (⟨0, 0, 0⟩, 4)
  | some x => if x.kd = 2 then (⟨(walkP V (spB s)).1, -1, -1⟩, 0) else (⟨0, 0, 0⟩, 4)
def CurPost (P : CurD × Int) (e : Ending) : Prop := ∃ E fb, P = (E, fb) /\ e = .returned (.tuple #[.agg #[.int .i64 E.d, .int .i64 E.h, .int .i64 E.i], .int .i64 fb])
theorem curPost_end {P : CurD × Int} {E : CurD} {fb : Int} {v : Value} (h : P = (E, fb)) (hv : v = .tuple #[.agg #[.int .i64 E.d, .int .i64 E.h, .int .i64 E.i], .int .i64 fb]) : CurPost P (.returned v) := ⟨E, fb, h, by rw [hv]⟩
theorem walk_zero {V : VolD} {s : ByteArray} (h : (walkP V (spB s)).2 = 0) : VolP V.nx V.xs /\ 0 <= plc V.xs (walkP V (spB s)).1 := by
 rcases hb : (spB s).2 with _ | _
 ·rw [walk_bad (.inl hb)] at h; cases h
 ·rcases hv : volOkB V.nx V.xs with _ | _
  ·rw [walk_bad (.inr hv)] at h; cases h
  ·have hp := volOkB_iff.1 hv
   rw [walk_ok hb hv] at h ⊢
   exact ⟨hp, wk_id hp _ _ (by rw [hp.one]; omega) h⟩
/-- Case by case. -/
theorem cur_cases (V : VolD) (s : ByteArray) : ((walkP V (spB s)).2 ≠ 0 /\ curP V s = (⟨0, 0, 0⟩, (walkP V (spB s)).2)) ∨ ((walkP V (spB s)).2 = 0 /\ VolP V.nx V.xs /\ ∃ (k : Nat) (hk : k < V.xs.length), plc V.xs (walkP V (spB s)).1 = (k : Int) /\ V.xs[k].id = (walkP V (spB s)).1 /\
  ((V.xs[k].kd ≠ 2 /\ curP V s = (⟨0, 0, 0⟩, 4)) ∨ (V.xs[k].kd = 2 /\ curP V s = (⟨(walkP V (spB s)).1, -1, -1⟩, 0)))) := by
 by_cases h : (walkP V (spB s)).2 = 0
 ·obtain ⟨hv, hp⟩ := walk_zero h
  obtain ⟨k, hk, hpk, hid⟩ := plc_lt hp
  refine .inr ⟨h, hv, k, hk, hpk, hid, ?_⟩
  unfold curP
  rw [if_neg (by simp [h]), hpk, Int.toNat_natCast, List.getElem?_eq_getElem hk]
  simp only
  by_cases hd : V.xs[k].kd = 2
  ·exact .inr ⟨hd, if_pos hd⟩
  ·exact .inl ⟨hd, if_neg hd⟩
 ·exact .inl ⟨h, by unfold curP; rw [if_pos h]⟩

theorem curOpen_impl (v : Value) (V : VolD) (sm : szV V <= 1048576) (s : ByteArray) (hs : s.size <= 2000000) (w : World) (hT : Tab w) (hC : IsVolC w v V) :
  Calls Tryz.prog 40 #[v, .string s] w fun e w' => CurPost (curP V s) e /\ Below w.heap.size w w' := by
 have Hwk := Lib.hid (fun W hT hW => walkV_impl v V sm s hs W hT hW)
 have hn := v_len sm
 have Hat := Lib.hid (fun a W hW => at_impl v V hn a W hW)
 have HCase := Lib.hid (cur_cases V s)
 have hvv := Lib.hid hC
 have HT := Lib.hid hT
 have h := hC.is
 obtain ⟨A, c, rfl, h⟩ := h
 obtain ⟨nx, xs⟩ := V
 simp only at Hwk Hat HCase h hn ⊢
 have H := Lib.hid h
 clear h sm hC hT
 obtain ⟨Q, hQ⟩ : ∃ Q, walkP ⟨nx, xs⟩ (spB s) = Q := ⟨_, rfl⟩
 simp only [hQ] at Hwk HCase
 clear hQ
 obtain ⟨id, code⟩ := Q
 simp only at Hwk HCase
 obtain ⟨W1, hW1⟩ : ∃ W1, (w.alloc (.cells #[.int .i64 nx, .slice A xs.length c] 26)).alloc (.cells #[.int .i64 0, .int .i64 0, .int .i64 0] 61) = W1 := ⟨_, rfl⟩
 have B1 : Below w.heap.size w W1 := by rw [<- hW1]; exact belA (belA (bel0 w) _) _
 have hV : Blk W1 w.heap.size 26 #[.int .i64 nx, .slice A xs.length c] := by rw [<- hW1]; exact (Blk.new' _ _ _ _ rfl).alloc _
 have hR : Blk W1 (w.heap.size + 1) 61 #[.int .i64 0, .int .i64 0, .int .i64 0] := by rw [<- hW1]; exact Blk.new' _ _ _ _ (by simp)
 have HW1 := Lib.hid hW1
 have HV := Lib.hid hV
 have HR := Lib.hid hR
 clear hW1 hV hR
 go_enter Tryz.func40, Tryz.ntmps40
 go_wp2_with fail
 rw [HW1.out]
 refine (Hwk.out W1 (HT.out.bl B1) (hvv.out.next B1)).mono ?_
 rintro e w2 ⟨rfl, hb2⟩
 have B2 := belN B1 hb2
 have R2 := Lib.hid (HR.out.below hb2 HR.out.lt)
 have V2 := Lib.hid (HV.out.below hb2 HV.out.lt)
 clear HR HV
 rcases HCase.out with ⟨hc, hP⟩ | ⟨hc, _, k, hk, hpk, hid, hcase⟩
 ·have hc1 : (code != 0) = true := by simpa using hc
  have HP := Lib.hid hP
  obtain ⟨r0, r1, r2⟩ := R2.out.g3
  obtain ⟨g0, g1, g2⟩ := R2.out.f3
  have lR := R2.out.lt
  go_wp2
  refine bodyPost_ret (v := .tuple #[.agg #[.int .i64 0, .int .i64 0, .int .i64 0], .int .i64 code]) (by simp [results, Tryz.results40, go_sem, r0, r1, r2]) rfl ⟨curPost_end HP.out rfl, ?_⟩
  exact belC (belC (belC B2 _ _ (by omega) _) _ _ (by omega) _) _ _ (by omega) _
 ·subst hc
  have HC2 := Lib.hid hcase
  have q0 : (0 : Int) <= ↑k := by omega
  obtain ⟨n, hn'⟩ : ∃ n, xs.length = n := ⟨_, rfl⟩
  have hkn : k < n := by omega
  have q1 : (↑k : Int) < ↑n := by omega
  have Hat1 := Lib.hid (fun W hW => Hat.out id W hW)
  simp only [hpk] at Hat1
  have hvv2 := Lib.hid (hvv.out.next B2)
  have V2' := V2
  simp only [hn'] at Hat1 hvv2 V2'
  have H2 := Lib.hid (H.out.next B2)
  simp only [hn'] at H2
  obtain ⟨_, b, o, A', c', hA, hadb, z0, z1, z2, z3, z4, _⟩ := H2.out.at_ hkn
  subst hA
  obtain ⟨v0, v1⟩ := V2'.out.g2
  obtain ⟨y, hy⟩ : ∃ y, xs[k].kd = y := ⟨_, rfl⟩
  rw [hy] at z1
  clear z0 z2 z3 z4 hcase HCase
  rw [hn'] at *
  go_wp2_with fail
  go_region_held3 (fun w' => w'.cell? ⟨w.heap.size, 0, none⟩ = some (.int .i64 nx) /\ w'.cell? ⟨w.heap.size, 1, none⟩ = some (.slice (some ⟨b, o, none⟩) n c) /\ w'.cell? ⟨b, o + k * 5 + 1, none⟩ = some (.int .i64 y))
   (first | go_keep | (refine ⟨keep1 hb3 ?_, keep1 hb3 ?_, keep1 hb3 ?_⟩ <;> go_keep))
   (first | (go_at_call 47; refine (Hat1.out _ (hvv2.out.next (bel0 w2).drew).is).mono ?_; rintro e w3 ⟨rfl, hb3⟩))
  have B3 := belN B2.drew hb3
  have R3 := Lib.hid (R2.out.drew.below hb3 R2.out.lt)
  clear v0 v1 z1
  rcases HC2.out with ⟨hd, hP⟩ | ⟨hd, hP⟩
  ·have hd' : (y != 2) = true := by rw [<- hy]; simpa using hd
   have HP := Lib.hid hP
   clear hd hP hy HC2
   obtain ⟨r0, r1, r2⟩ := R3.out.g3
   obtain ⟨g0, g1, g2⟩ := R3.out.f3
   have lR := R3.out.lt
   go_wp2
   refine bodyPost_ret (v := .tuple #[.agg #[.int .i64 0, .int .i64 0, .int .i64 0], .int .i64 4]) (by simp [results, Tryz.results40, go_sem, r0, r1, r2]) rfl ⟨curPost_end HP.out rfl, ?_⟩
   exact belC (belC (belC B3 _ _ (by omega) _) _ _ (by omega) _) _ _ (by omega) _
  ·obtain rfl : y = 2 := by rw [<- hy]; exact hd
   have HP := Lib.hid hP
   clear hd hP hy HC2
   obtain ⟨r0, r1, r2⟩ := R3.out.g3
   obtain ⟨g0, g1, g2⟩ := R3.out.f3
   have lR := R3.out.lt
   go_wp2
   refine bodyPost_ret (v := .tuple #[.agg #[.int .i64 id, .int .i64 (-1), .int .i64 (-1)], .int .i64 0]) (by simp [results, Tryz.results40, go_sem, r0, r1, r2]) rfl ⟨curPost_end HP.out rfl, ?_⟩
   exact belC (belC (belC B3 _ _ (by omega) _) _ _ (by omega) _) _ _ (by omega) _

theorem curOpen_spec (v : Value) (V : VolD) (sm : szV V <= 1048576) (s : ByteArray) (hs : s.size <= 2000000) (w : World) (hC : IsVolC w v V) :
  Calls Tryz.prog 48 #[v, .string s] w fun e w' => CurPost (curP V s) e /\ Below w.heap.size w w' := by
 have Hwk := Lib.hid (fun W hW => walkV_spec v V sm s hs W hW)
 have hn := v_len sm
 have Hat := Lib.hid (fun a W hW => l6At_any v V hn a W hW)
 have HCase := Lib.hid (cur_cases V s)
 have hvv := Lib.hid hC
 skip
 have h := hC.is
 obtain ⟨A, c, rfl, h⟩ := h
 obtain ⟨nx, xs⟩ := V
 simp only at Hwk Hat HCase h hn ⊢
 have H := Lib.hid h
 clear h sm hC
 obtain ⟨Q, hQ⟩ : ∃ Q, walkP ⟨nx, xs⟩ (spB s) = Q := ⟨_, rfl⟩
 simp only [hQ] at Hwk HCase
 clear hQ
 obtain ⟨id, code⟩ := Q
 simp only at Hwk HCase
 obtain ⟨W1, hW1⟩ : ∃ W1, (w.alloc (.cells #[.int .i64 nx, .slice A xs.length c] 26)).alloc (.cells #[.int .i64 0, .int .i64 0, .int .i64 0] 61) = W1 := ⟨_, rfl⟩
 have B1 : Below w.heap.size w W1 := by rw [<- hW1]; exact belA (belA (bel0 w) _) _
 have hV : Blk W1 w.heap.size 26 #[.int .i64 nx, .slice A xs.length c] := by rw [<- hW1]; exact (Blk.new' _ _ _ _ rfl).alloc _
 have hR : Blk W1 (w.heap.size + 1) 61 #[.int .i64 0, .int .i64 0, .int .i64 0] := by rw [<- hW1]; exact Blk.new' _ _ _ _ (by simp)
 have HW1 := Lib.hid hW1
 have HV := Lib.hid hV
 have HR := Lib.hid hR
 clear hW1 hV hR
 go_enter Tryz.func48, Tryz.ntmps48
 go_wp2_with fail
 rw [HW1.out]
 refine (Hwk.out W1 (hvv.out.next B1)).mono ?_
 rintro e w2 ⟨rfl, hb2⟩
 have B2 := belN B1 hb2
 have R2 := Lib.hid (HR.out.below hb2 HR.out.lt)
 have V2 := Lib.hid (HV.out.below hb2 HV.out.lt)
 clear HR HV
 rcases HCase.out with ⟨hc, hP⟩ | ⟨hc, _, k, hk, hpk, hid, hcase⟩
 ·have hc1 : (code != 0) = true := by simpa using hc
  have HP := Lib.hid hP
  obtain ⟨r0, r1, r2⟩ := R2.out.g3
  obtain ⟨g0, g1, g2⟩ := R2.out.f3
  have lR := R2.out.lt
  go_wp2
  refine bodyPost_ret (v := .tuple #[.agg #[.int .i64 0, .int .i64 0, .int .i64 0], .int .i64 code]) (by simp [results, Tryz.results48, go_sem, r0, r1, r2]) rfl ⟨curPost_end HP.out rfl, ?_⟩
  exact belC (belC (belC B2 _ _ (by omega) _) _ _ (by omega) _) _ _ (by omega) _
 ·subst hc
  have HC2 := Lib.hid hcase
  have q0 : (0 : Int) <= ↑k := by omega
  obtain ⟨n, hn'⟩ : ∃ n, xs.length = n := ⟨_, rfl⟩
  have hkn : k < n := by omega
  have q1 : (↑k : Int) < ↑n := by omega
  have Hat1 := Lib.hid (fun W hW => Hat.out id W hW)
  simp only [hpk] at Hat1
  have hvv2 := Lib.hid (hvv.out.next B2)
  have V2' := V2
  simp only [hn'] at Hat1 hvv2 V2'
  have H2 := Lib.hid (H.out.next B2)
  simp only [hn'] at H2
  obtain ⟨_, b, o, A', c', hA, hadb, z0, z1, z2, z3, z4, _⟩ := H2.out.at_ hkn
  subst hA
  obtain ⟨v0, v1⟩ := V2'.out.g2
  obtain ⟨y, hy⟩ : ∃ y, xs[k].kd = y := ⟨_, rfl⟩
  rw [hy] at z1
  clear z0 z2 z3 z4 hcase HCase
  rw [hn'] at *
  go_wp2_with fail
  go_region_held3 (fun w' => w'.cell? ⟨w.heap.size, 0, none⟩ = some (.int .i64 nx) /\ w'.cell? ⟨w.heap.size, 1, none⟩ = some (.slice (some ⟨b, o, none⟩) n c) /\ w'.cell? ⟨b, o + k * 5 + 1, none⟩ = some (.int .i64 y))
   (first | go_keep | (refine ⟨keep1 hb3 ?_, keep1 hb3 ?_, keep1 hb3 ?_⟩ <;> go_keep))
   (first | (go_at_call 54; refine (Hat1.out _ (hvv2.out.next (bel0 w2).drew).is).mono ?_; rintro e w3 ⟨rfl, hb3⟩))
  have B3 := belN B2.drew hb3
  have R3 := Lib.hid (R2.out.drew.below hb3 R2.out.lt)
  clear v0 v1 z1
  rcases HC2.out with ⟨hd, hP⟩ | ⟨hd, hP⟩
  ·have hd' : (y != 2) = true := by rw [<- hy]; simpa using hd
   have HP := Lib.hid hP
   clear hd hP hy HC2
   obtain ⟨r0, r1, r2⟩ := R3.out.g3
   obtain ⟨g0, g1, g2⟩ := R3.out.f3
   have lR := R3.out.lt
   go_wp2
   refine bodyPost_ret (v := .tuple #[.agg #[.int .i64 0, .int .i64 0, .int .i64 0], .int .i64 4]) (by simp [results, Tryz.results48, go_sem, r0, r1, r2]) rfl ⟨curPost_end HP.out rfl, ?_⟩
   exact belC (belC (belC B3 _ _ (by omega) _) _ _ (by omega) _) _ _ (by omega) _
  ·obtain rfl : y = 2 := by rw [<- hy]; exact hd
   have HP := Lib.hid hP
   clear hd hP hy HC2
   obtain ⟨r0, r1, r2⟩ := R3.out.g3
   obtain ⟨g0, g1, g2⟩ := R3.out.f3
   have lR := R3.out.lt
   go_wp2
   refine bodyPost_ret (v := .tuple #[.agg #[.int .i64 id, .int .i64 (-1), .int .i64 (-1)], .int .i64 0]) (by simp [results, Tryz.results48, go_sem, r0, r1, r2]) rfl ⟨curPost_end HP.out rfl, ?_⟩
   exact belC (belC (belC B3 _ _ (by omega) _) _ _ (by omega) _) _ _ (by omega) _

def tarOne (xs : List InoD) (T : Int -> ByteArray) (e : EntD) : ByteArray :=
 match xs[(plc xs e.d).toNat]? with
 | none => ⟨#[]⟩
 | some x => if x.kd = 2 then str [100] ++ pieceB e.s ++ T x.id ++ str [101] else str [102] ++ pieceB e.s ++ pieceB x.s
def entsOf (xs : List InoD) (a : Int) : List EntD := match xs[(plc xs a).toNat]? with | none => [] | some x => x.es
section
variable {nx : Int} {xs : List InoD}
end

end Go.Proofs.YtjjniapamdleoaaGreatDoor
