/- Archives of directories: Tar and SameTree of both packages. -/
import Derived.Test.YthdbomkddpnhaaaGreatDoorTarI
import Derived.Test.YthdbomkddpnhaaaGreatDoorCur
namespace Go.Proofs.YthdbomkddpnhaaaGreatDoor
open Go Go.RowKit

theorem cur_zero {V : VolD} {s : ByteArray} (h : (curP V s).2 = 0) : VolP V.nx V.xs ∧ ∃ x ∈ V.xs, x.kd = 2 ∧ x.id = (curP V s).1.d := by
  rcases cur_cases V s with ⟨h1, h2⟩ | ⟨h1, hv, k, hk, hpk, hid, ⟨hd, h2⟩ | ⟨hd, h2⟩⟩
  · rw [h2] at h; exact absurd h h1
  · rw [h2] at h; simp at h
  · rw [h2]; exact ⟨hv, _, List.getElem_mem hk, hd, hid⟩
/-- What Tar gives. -/
noncomputable def tarW (V : VolD) (s : ByteArray) : ByteArray × Int := if (curP V s).2 = 0 then (tarT V.xs (curP V s).1.d, 0) else (⟨#[]⟩, (curP V s).2)
/-- Are two directories' texts one? -/
noncomputable def sameB (V : VolD) (s t : ByteArray) : Bool := (tarW V s).2 == 0 && ((tarW V t).2 == 0 && decide ((tarW V s).1 = (tarW V t).1))
theorem bytes_dec (x y : ByteArray) : (x.toList == y.toList) = decide (x = y) := by
  by_cases h : x = y
  · rw [seq_true h]; simp [h]
  · rw [seq_false h]; simp [h]
theorem tarW_bad {V : VolD} {s : ByteArray} (h : (curP V s).2 ≠ 0) : tarW V s = (⟨#[]⟩, (curP V s).2) := by unfold tarW; rw [if_neg h]
theorem tarW_ok {V : VolD} {s : ByteArray} (h : (curP V s).2 = 0) : tarW V s = (tarT V.xs (curP V s).1.d, 0) := by unfold tarW; rw [if_pos h]

theorem tar_all_impl (v : Value) (V : VolD) (sm : szV V ≤ 1048576) (hv : VolP V.nx V.xs) : ∀ (d : Nat) (x : InoD), x ∈ V.xs → x.kd = 2 → 16 - dpt V.xs x.id ≤ d → ∀ W, IsVolC W v V →
    Calls Tryz.prog 69 #[v, .int .i64 x.id] W fun e w' => e = .returned (.string (tarT V.xs x.id)) ∧ Below W.heap.size W w'
  | 0, x, hx, hd, h, W, hW => by have := dpt_short hv (a := x.id) ⟨x, hx, rfl, hd⟩; omega
  | d + 1, x, hx, hd, h, W, hW => by
    obtain ⟨k, hk, rfl⟩ := List.getElem_of_mem hx
    have hpl := plc_own hv.grow hk
    have his := tarT_is hv hx hd
    rw [his]
    refine tar_gen v V sm hv (tarT V.xs) _ k hk hpl (fun y hy hyd => tarT_size hv hy hyd) (by rw [← his]; exact tarT_size hv hx hd) (fun i hi j hj hpj hjd W2 hW2 => ?_) W hW
    have hid := plc_inj hj hpj
    have hkd := kid_deep hv hx (List.getElem_mem hi) (List.getElem_mem hj) hjd hid
    have hs := dpt_short hv (a := V.xs[k].id) ⟨_, hx, rfl, hd⟩
    exact tar_all_impl v V sm hv d _ (List.getElem_mem hj) hjd (by omega) W2 hW2

set_option maxRecDepth 100000 in
set_option maxHeartbeats 4000000 in
theorem tarV_impl (v : Value) (V : VolD) (sm : szV V ≤ 1048576) (s : ByteArray) (hs : s.size ≤ 2000000) (w : World) (hT : Tab w) (hC : IsVolC w v V) :
    Calls Tryz.prog 24 #[v, .string s] w fun e w' => e = .returned (.tuple #[.string (tarW V s).1, .int .i64 (tarW V s).2]) ∧ Below w.heap.size w w' := by
  have Hcur := Lib.hid (fun W hT hW => curOpen_impl v V sm s hs W hT hW)
  have Htar := Lib.hid (fun hv x hx hd W hW => tar_all_impl v V sm hv _ x hx hd (Nat.le_refl _) W hW)
  have Hz := Lib.hid (cur_zero (V := V) (s := s))
  have Hbad := Lib.hid (tarW_bad (V := V) (s := s))
  have Hgood := Lib.hid (tarW_ok (V := V) (s := s))
  have hvv := Lib.hid hC
  have HT := Lib.hid hT
  obtain ⟨A, c, rfl, _⟩ := hC
  obtain ⟨nx, xs⟩ := V
  simp only at Hcur Htar Hz ⊢
  clear sm hT
  obtain ⟨Q, hQ⟩ : ∃ Q, curP ⟨nx, xs⟩ s = Q := ⟨_, rfl⟩
  simp only [hQ] at Hcur Hz Hbad Hgood
  clear hQ
  obtain ⟨R, hR⟩ : ∃ R, tarW ⟨nx, xs⟩ s = R := ⟨_, rfl⟩
  simp only [hR] at Hbad Hgood
  rw [hR]
  clear hR
  obtain ⟨W1, hW1⟩ : ∃ W1, w.alloc (.cells #[.int .i64 nx, .slice A xs.length c] 30) = W1 := ⟨_, rfl⟩
  have B1 : Below w.heap.size w W1 := by rw [← hW1]; exact belA (bel0 w) _
  have hV : Blk W1 w.heap.size 30 #[.int .i64 nx, .slice A xs.length c] := by rw [← hW1]; exact Blk.new' _ _ _ _ rfl
  have HW1 := Lib.hid hW1
  have V0 := Lib.hid (hV.get (x := .int .i64 nx) 0 rfl)
  have V1 := Lib.hid (hV.get (x := .slice A xs.length c) 1 rfl)
  clear hW1 hV
  go_enter Tryz.func24, Tryz.ntmps24
  go_wp2_with fail
  rw [HW1.out]
  refine (Hcur.out W1 (HT.out.bl B1) (hvv.out.next B1)).mono ?_
  rintro e w2 ⟨⟨E, code, hE, rfl⟩, hb2⟩
  subst hE
  obtain ⟨d, h, i⟩ := E
  simp only at Hz Hbad Hgood
  have B2 := belN B1 hb2
  have v0 := keep1 hb2 V0.out (Nat.le_refl _)
  have v1 := keep1 hb2 V1.out (Nat.le_refl _)
  by_cases hc : code = 0
  · subst hc
    obtain ⟨hv, x, hx, hd, hid⟩ := Hz.out rfl
    have Ht := Lib.hid (fun W hW => Htar.out hv x hx hd W hW)
    simp only [hid] at Ht
    have Hg := Lib.hid (Hgood.out rfl)
    clear hx hd hid hv
    obtain ⟨T1, hT1⟩ : ∃ T1, tarT xs d = T1 := ⟨_, rfl⟩
    simp only [hT1] at Ht Hg
    clear hT1 Hgood Hbad Hz Htar
    obtain ⟨w4, hw4⟩ : ∃ W, w2.alloc (.cells #[.int .i64 d, .int .i64 h, .int .i64 i] 35) = W := ⟨_, rfl⟩
    have b4 : Below w2.heap.size w2 w4 := by rw [← hw4]; exact belA (bel0 _) _
    have hcu : Blk w4 w2.heap.size 35 #[.int .i64 d, .int .i64 h, .int .i64 i] := by rw [← hw4]; exact Blk.new' _ _ _ _ rfl
    go_upto_region 4 with fail
    try rw [hw4]
    clear hw4
    have z0 := keep1 b4 v0 (Nat.le_refl _)
    have z1 := keep1 b4 v1 (Nat.le_refl _)
    have z2 := hcu.get (x := .int .i64 d) 0 rfl
    have B4 := belN B2 b4
    clear v0 v1 hcu
    go_wp2_with fail
    refine (Ht.out w4 (hvv.out.next B4)).mono ?_
    rintro e w3 ⟨rfl, hb3⟩
    have B3 := belN B4 hb3
    go_wp2
    refine bodyPost_ret (v := .tuple #[.string T1, .int .i64 0]) (by simp [results, Tryz.results24, go_sem]) rfl ⟨by rw [Hg.out], ?_⟩
    repeat (first | exact B3 | refine belA ?_ _ | apply Below.drew)
  · have Hg := Lib.hid (Hbad.out hc)
    have hc1 : (code != 0) = true := by simpa using hc
    clear hc Hgood Hbad Hz Htar
    go_wp2
    refine bodyPost_ret (v := .tuple #[.string ⟨#[]⟩, .int .i64 code]) (by simp [results, Tryz.results24, go_sem]) rfl ⟨by rw [Hg.out], ?_⟩
    repeat (first | exact B2 | refine belA ?_ _ | apply Below.drew)

set_option maxRecDepth 100000 in
set_option maxHeartbeats 4000000 in
theorem sameTree_impl (v : Value) (V : VolD) (sm : szV V ≤ 1048576) (s t : ByteArray) (hs : s.size ≤ 2000000) (ht : t.size ≤ 2000000) (w : World) (hT : Tab w) (hC : IsVolC w v V) :
    Calls Tryz.prog 33 #[v, .string s, .string t] w fun e w' => e = .returned (.bool (sameB V s t)) ∧ Below w.heap.size w w' := by
  have Ht1 := Lib.hid (fun W hT hW => tarV_impl v V sm s hs W hT hW)
  have Ht2 := Lib.hid (fun W hT hW => tarV_impl v V sm t ht W hT hW)
  have hvv := Lib.hid hC
  have HT := Lib.hid hT
  obtain ⟨A, c, rfl, _⟩ := hC
  obtain ⟨nx, xs⟩ := V
  simp only at Ht1 Ht2 ⊢
  clear sm hT
  unfold sameB
  obtain ⟨P, hP⟩ : ∃ P, tarW ⟨nx, xs⟩ s = P := ⟨_, rfl⟩
  obtain ⟨Q, hQ⟩ : ∃ Q, tarW ⟨nx, xs⟩ t = Q := ⟨_, rfl⟩
  simp only [hP] at Ht1
  simp only [hQ] at Ht2
  rw [hP, hQ]
  clear hP hQ
  obtain ⟨x, cx⟩ := P
  obtain ⟨y, cy⟩ := Q
  simp only at Ht1 Ht2 ⊢
  obtain ⟨W1, hW1⟩ : ∃ W1, w.alloc (.cells #[.int .i64 nx, .slice A xs.length c] 30) = W1 := ⟨_, rfl⟩
  have B1 : Below w.heap.size w W1 := by rw [← hW1]; exact belA (bel0 w) _
  have hV : Blk W1 w.heap.size 30 #[.int .i64 nx, .slice A xs.length c] := by rw [← hW1]; exact Blk.new' _ _ _ _ rfl
  have HW1 := Lib.hid hW1
  have V0 := Lib.hid (hV.get (x := .int .i64 nx) 0 rfl)
  have V1 := Lib.hid (hV.get (x := .slice A xs.length c) 1 rfl)
  clear hW1 hV
  go_enter Tryz.func33, Tryz.ntmps33
  go_wp2_with fail
  rw [HW1.out]
  refine (Ht1.out W1 (HT.out.bl B1) (hvv.out.next B1)).mono ?_
  rintro e w2 ⟨rfl, hb2⟩
  have B2 := belN B1 hb2
  have v0 := keep1 hb2 V0.out (Nat.le_refl _)
  have v1 := keep1 hb2 V1.out (Nat.le_refl _)
  go_wp2_with fail
  refine (Ht2.out w2 (HT.out.bl B2) (hvv.out.next B2)).mono ?_
  rintro e w3 ⟨rfl, hb3⟩
  have B3 := belN B2 hb3
  clear v0 v1
  by_cases h1 : cx = 0
  · subst h1
    by_cases h2 : cy = 0
    · subst h2
      go_wp2
      go_ret
      exact ⟨by simp [bytes_dec], B3⟩
    · have h2' : (cy == 0) = false := by simpa using h2
      clear h2
      go_wp2
      go_ret
      exact ⟨by simp [h2'], B3⟩
  · have h1' : (cx == 0) = false := by simpa using h1
    clear h1
    go_wp2
    go_ret
    exact ⟨by simp [h1'], B3⟩

theorem tar_all_spec (v : Value) (V : VolD) (sm : szV V ≤ 1048576) (hv : VolP V.nx V.xs) : ∀ (d : Nat) (x : InoD), x ∈ V.xs → x.kd = 2 → 16 - dpt V.xs x.id ≤ d → ∀ W, IsVolC W v V →
    Calls Tryz.prog 68 #[v, .int .i64 x.id] W fun e w' => e = .returned (.string (tarT V.xs x.id)) ∧ Below W.heap.size W w'
  | 0, x, hx, hd, h, W, hW => by have := dpt_short hv (a := x.id) ⟨x, hx, rfl, hd⟩; omega
  | d + 1, x, hx, hd, h, W, hW => by
    obtain ⟨k, hk, rfl⟩ := List.getElem_of_mem hx
    have hpl := plc_own hv.grow hk
    have his := tarT_is hv hx hd
    rw [his]
    refine l27_gen v V sm hv (tarT V.xs) _ k hk hpl (fun y hy hyd => tarT_size hv hy hyd) (by rw [← his]; exact tarT_size hv hx hd) (fun i hi j hj hpj hjd W2 hW2 => ?_) W hW
    have hid := plc_inj hj hpj
    have hkd := kid_deep hv hx (List.getElem_mem hi) (List.getElem_mem hj) hjd hid
    have hs := dpt_short hv (a := V.xs[k].id) ⟨_, hx, rfl, hd⟩
    exact tar_all_spec v V sm hv d _ (List.getElem_mem hj) hjd (by omega) W2 hW2

set_option maxRecDepth 100000 in
set_option maxHeartbeats 4000000 in
theorem tarV_spec (v : Value) (V : VolD) (sm : szV V ≤ 1048576) (s : ByteArray) (hs : s.size ≤ 2000000) (w : World) (hC : IsVolC w v V) :
    Calls Tryz.prog 23 #[v, .string s] w fun e w' => e = .returned (.tuple #[.string (tarW V s).1, .int .i64 (tarW V s).2]) ∧ Below w.heap.size w w' := by
  have Hcur := Lib.hid (fun W hW => curOpen_spec v V sm s hs W hW)
  have Htar := Lib.hid (fun hv x hx hd W hW => tar_all_spec v V sm hv _ x hx hd (Nat.le_refl _) W hW)
  have Hz := Lib.hid (cur_zero (V := V) (s := s))
  have Hbad := Lib.hid (tarW_bad (V := V) (s := s))
  have Hgood := Lib.hid (tarW_ok (V := V) (s := s))
  have hvv := Lib.hid hC
  obtain ⟨A, c, rfl, _⟩ := hC
  obtain ⟨nx, xs⟩ := V
  simp only at Hcur Htar Hz ⊢
  clear sm
  obtain ⟨Q, hQ⟩ : ∃ Q, curP ⟨nx, xs⟩ s = Q := ⟨_, rfl⟩
  simp only [hQ] at Hcur Hz Hbad Hgood
  clear hQ
  obtain ⟨R, hR⟩ : ∃ R, tarW ⟨nx, xs⟩ s = R := ⟨_, rfl⟩
  simp only [hR] at Hbad Hgood
  rw [hR]
  clear hR
  obtain ⟨W1, hW1⟩ : ∃ W1, w.alloc (.cells #[.int .i64 nx, .slice A xs.length c] 30) = W1 := ⟨_, rfl⟩
  have B1 : Below w.heap.size w W1 := by rw [← hW1]; exact belA (bel0 w) _
  have hV : Blk W1 w.heap.size 30 #[.int .i64 nx, .slice A xs.length c] := by rw [← hW1]; exact Blk.new' _ _ _ _ rfl
  have HW1 := Lib.hid hW1
  have V0 := Lib.hid (hV.get (x := .int .i64 nx) 0 rfl)
  have V1 := Lib.hid (hV.get (x := .slice A xs.length c) 1 rfl)
  clear hW1 hV
  go_enter Tryz.func23, Tryz.ntmps23
  go_wp2_with fail
  rw [HW1.out]
  refine (Hcur.out W1 (hvv.out.next B1)).mono ?_
  rintro e w2 ⟨⟨E, code, hE, rfl⟩, hb2⟩
  subst hE
  obtain ⟨d, h, i⟩ := E
  simp only at Hz Hbad Hgood
  have B2 := belN B1 hb2
  have v0 := keep1 hb2 V0.out (Nat.le_refl _)
  have v1 := keep1 hb2 V1.out (Nat.le_refl _)
  by_cases hc : code = 0
  · subst hc
    obtain ⟨hv, x, hx, hd, hid⟩ := Hz.out rfl
    have Ht := Lib.hid (fun W hW => Htar.out hv x hx hd W hW)
    simp only [hid] at Ht
    have Hg := Lib.hid (Hgood.out rfl)
    clear hx hd hid hv
    obtain ⟨T1, hT1⟩ : ∃ T1, tarT xs d = T1 := ⟨_, rfl⟩
    simp only [hT1] at Ht Hg
    clear hT1 Hgood Hbad Hz Htar
    obtain ⟨w4, hw4⟩ : ∃ W, w2.alloc (.cells #[.int .i64 d, .int .i64 h, .int .i64 i] 35) = W := ⟨_, rfl⟩
    have b4 : Below w2.heap.size w2 w4 := by rw [← hw4]; exact belA (bel0 _) _
    have hcu : Blk w4 w2.heap.size 35 #[.int .i64 d, .int .i64 h, .int .i64 i] := by rw [← hw4]; exact Blk.new' _ _ _ _ rfl
    go_upto_region 4 with fail
    try rw [hw4]
    clear hw4
    have z0 := keep1 b4 v0 (Nat.le_refl _)
    have z1 := keep1 b4 v1 (Nat.le_refl _)
    have z2 := hcu.get (x := .int .i64 d) 0 rfl
    have B4 := belN B2 b4
    clear v0 v1 hcu
    go_wp2_with fail
    refine (Ht.out w4 (hvv.out.next B4)).mono ?_
    rintro e w3 ⟨rfl, hb3⟩
    have B3 := belN B4 hb3
    go_wp2
    refine bodyPost_ret (v := .tuple #[.string T1, .int .i64 0]) (by simp [results, Tryz.results23, go_sem]) rfl ⟨by rw [Hg.out], ?_⟩
    repeat (first | exact B3 | refine belA ?_ _ | apply Below.drew)
  · have Hg := Lib.hid (Hbad.out hc)
    have hc1 : (code != 0) = true := by simpa using hc
    clear hc Hgood Hbad Hz Htar
    go_wp2
    refine bodyPost_ret (v := .tuple #[.string ⟨#[]⟩, .int .i64 code]) (by simp [results, Tryz.results23, go_sem]) rfl ⟨by rw [Hg.out], ?_⟩
    repeat (first | exact B2 | refine belA ?_ _ | apply Below.drew)

set_option maxRecDepth 100000 in
set_option maxHeartbeats 4000000 in
theorem sameTree_spec (v : Value) (V : VolD) (sm : szV V ≤ 1048576) (s t : ByteArray) (hs : s.size ≤ 2000000) (ht : t.size ≤ 2000000) (w : World) (hC : IsVolC w v V) :
    Calls Tryz.prog 32 #[v, .string s, .string t] w fun e w' => e = .returned (.bool (sameB V s t)) ∧ Below w.heap.size w w' := by
  have Ht1 := Lib.hid (fun W hW => tarV_spec v V sm s hs W hW)
  have Ht2 := Lib.hid (fun W hW => tarV_spec v V sm t ht W hW)
  have hvv := Lib.hid hC
  obtain ⟨A, c, rfl, _⟩ := hC
  obtain ⟨nx, xs⟩ := V
  simp only at Ht1 Ht2 ⊢
  clear sm
  unfold sameB
  obtain ⟨P, hP⟩ : ∃ P, tarW ⟨nx, xs⟩ s = P := ⟨_, rfl⟩
  obtain ⟨Q, hQ⟩ : ∃ Q, tarW ⟨nx, xs⟩ t = Q := ⟨_, rfl⟩
  simp only [hP] at Ht1
  simp only [hQ] at Ht2
  rw [hP, hQ]
  clear hP hQ
  obtain ⟨x, cx⟩ := P
  obtain ⟨y, cy⟩ := Q
  simp only at Ht1 Ht2 ⊢
  obtain ⟨W1, hW1⟩ : ∃ W1, w.alloc (.cells #[.int .i64 nx, .slice A xs.length c] 30) = W1 := ⟨_, rfl⟩
  have B1 : Below w.heap.size w W1 := by rw [← hW1]; exact belA (bel0 w) _
  have hV : Blk W1 w.heap.size 30 #[.int .i64 nx, .slice A xs.length c] := by rw [← hW1]; exact Blk.new' _ _ _ _ rfl
  have HW1 := Lib.hid hW1
  have V0 := Lib.hid (hV.get (x := .int .i64 nx) 0 rfl)
  have V1 := Lib.hid (hV.get (x := .slice A xs.length c) 1 rfl)
  clear hW1 hV
  go_enter Tryz.func32, Tryz.ntmps32
  go_wp2_with fail
  rw [HW1.out]
  refine (Ht1.out W1 (hvv.out.next B1)).mono ?_
  rintro e w2 ⟨rfl, hb2⟩
  have B2 := belN B1 hb2
  have v0 := keep1 hb2 V0.out (Nat.le_refl _)
  have v1 := keep1 hb2 V1.out (Nat.le_refl _)
  go_wp2_with fail
  refine (Ht2.out w2 (hvv.out.next B2)).mono ?_
  rintro e w3 ⟨rfl, hb3⟩
  have B3 := belN B2 hb3
  clear v0 v1
  by_cases h1 : cx = 0
  · subst h1
    by_cases h2 : cy = 0
    · subst h2
      go_wp2
      go_ret
      exact ⟨by simp [bytes_dec], B3⟩
    · have h2' : (cy == 0) = false := by simpa using h2
      clear h2
      go_wp2
      go_ret
      exact ⟨by simp [h2'], B3⟩
  · have h1' : (cx == 0) = false := by simpa using h1
    clear h1
    go_wp2
    go_ret
    exact ⟨by simp [h1'], B3⟩

end Go.Proofs.YthdbomkddpnhaaaGreatDoor
