/- Whether a volume is right, in both packages. -/
import Derived.Test.YthdbomkddpnhaaaGreatDoorPInoOk
import Derived.Test.YthdbomkddpnhaaaGreatDoorPVolB
namespace Go.Proofs.YthdbomkddpnhaaaGreatDoor
open Go Go.RowKit

theorem volOk_no {nx : Int} {xs : List InoD} (h : ¬ VolP nx xs) : volOkB nx xs = false := by
 cases hb : volOkB nx xs with
 | false => rfl
 | true => exact absurd (volOkB_iff.1 hb) h
/-- What is asked of the inode at a place. -/
def RowP (nx : Int) (xs : List InoD) (k : Nat) : Prop := ∀ (hk : k < xs.length), 1 ≤ xs[k].id ∧ xs[k].id ≤ nx - 1 ∧ (∀ (_ : 0 < k), xs[k-1].id < xs[k].id) ∧ inoOkB xs xs[k] = true
theorem VolP.row {nx : Int} {xs : List InoD} (h : VolP nx xs) (k : Nat) : RowP nx xs k := h.rows k
theorem head_is {xs : List InoD} (h : 0 < xs.length) {x : InoD} (hx : xs[0]? = some x) : xs[0] = x := by
 rw [List.getElem?_eq_getElem h] at hx; injection hx

set_option maxRecDepth 100000 in
set_option maxHeartbeats 2000000 in
theorem indexFunc_vol (p : InoD → Bool) (cap : Value) (A : Option Addr) (n c : Nat) (xs : List InoD) (hn : n ≤ 9223372036854775807) (w : World) (hr : VAt w w.heap.size A n xs)
  (hcl : ∀ W, Below w.heap.size w W → ∀ x ∈ xs, ∀ A' c', Calls Tryz.prog 131 #[.agg #[.int .i64 x.id, .int .i64 x.kd, .int .i64 x.ln, .string x.s, .slice A' x.es.length c'], cap] W fun r w' => r = .returned (.bool (p x)) ∧ Below W.heap.size W w') :
  Calls Tryz.prog 136 #[.slice A n c, .func (.func 131) #[] #[cap]] w fun e w' => ∃ r : Int, e = .returned (.int .i64 r) ∧ decide (0 ≤ r) = xs.any p ∧ Below w.heap.size w w' := by
 have hl := hr.len
 have Hr := Lib.hid hr
 have HL := Lib.hid hl
 have Hcl := Lib.hid hcl
 clear hr hl hcl
 go_enter Tryz.func136, Tryz.ntmps136
 go_wp2
 go_loopw [8] (fun i wr => ∃ (k : Nat), k ≤ n ∧ i = .int .i64 k ∧ Hid ((xs.take k).any p = false) ∧ Below w.heap.size w wr)
  (fun i _ => n - (intOf i).toNat)
 case atStart => exact ⟨0, by omega, rfl, by simp [Hid], bel0 w⟩
 case round =>
  obtain ⟨k, hk, rfl, hnone, hbel⟩ := hrel
  by_cases hlt : k < n
  ·obtain ⟨hkx, b, o, A', c', rfl, hadb, z0, z1, z2, z3, z4, hrow⟩ := (Hr.out.below hbel).at_ hlt
   have q0 : (0 : Int) ≤ ↑k := by omega
   have q1 : (↑k : Int) < ↑n := by omega
   have hts := Lib.hid (List.take_succ_eq_append_getElem hkx)
   have hck := Lib.hid (Hcl.out wr hbel xs[k] (List.getElem_mem hkx) A' c')
   clear hrow
   rcases hp : p xs[k] with _ | _
   ·have Hm := Lib.hid (show (xs.take (k + 1)).any p = false by rw [hts.out, List.any_append, hnone.out]; simp [hp])
    have Hp := Lib.hid hp
    clear hp
    go_wp2_with fail
    refine hck.out.mono ?_
    rintro r w2 ⟨rfl, hb2⟩
    rw [Hp.out]
    go_wp2
    go_roundw
    case rel => exact ⟨k + 1, by omega, by go_num, Hm, belN hbel hb2⟩
    case measure => simp [intOf]; omega
   ·have Hf := Lib.hid (show xs.any p = true from List.any_eq_true.2 ⟨_, List.getElem_mem hkx, hp⟩)
    have Hp := Lib.hid hp
    clear hp
    go_wp2_with fail
    refine hck.out.mono ?_
    rintro r w2 ⟨rfl, hb2⟩
    rw [Hp.out]
    go_wp2
    go_ret
    exact ⟨_, rfl, by rw [Hf.out]; simp, belN hbel hb2⟩
  ·have Hf := Lib.hid (show xs.any p = false by have := hnone.out; rwa [List.take_of_length_le (by have := HL.out; omega)] at this)
   go_wp2
   go_ret
   exact ⟨_, rfl, by rw [Hf.out]; rfl, hbel⟩

set_option maxRecDepth 100000 in
set_option maxHeartbeats 2000000 in
theorem containsFunc_vol (p : InoD → Bool) (cap : Value) (A : Option Addr) (n c : Nat) (xs : List InoD) (hn : n ≤ 9223372036854775807) (w : World) (hr : VAt w w.heap.size A n xs)
  (hcl : ∀ W, Below w.heap.size w W → ∀ x ∈ xs, ∀ A' c', Calls Tryz.prog 131 #[.agg #[.int .i64 x.id, .int .i64 x.kd, .int .i64 x.ln, .string x.s, .slice A' x.es.length c'], cap] W fun r w' => r = .returned (.bool (p x)) ∧ Below W.heap.size W w') :
  Calls Tryz.prog 130 #[.slice A n c, .func (.func 131) #[] #[cap]] w fun e w' => e = .returned (.bool (xs.any p)) ∧ Below w.heap.size w w' := by
 have H := Lib.hid (indexFunc_vol p cap A n c xs hn w hr hcl)
 clear hr hcl
 go_enter Tryz.func130, Tryz.ntmps130
 go_wp2_with fail
 refine H.out.mono ?_
 rintro e w1 ⟨r, rfl, hi, hb1⟩
 have Hi := Lib.hid hi
 clear hi
 go_wp2
 go_ret
 exact ⟨ret_bool (by first | exact Hi.out | simpa using Hi.out), hb1⟩

set_option maxHeartbeats 1000000 in
theorem volOk_clo (Ao : Option Addr) (co : Nat) (out : List Int) (hn : out.length ≤ 10000000) (B : Nat) (x : InoD) (A' : Option Addr) (c' : Nat) (w : World) (hB : w.cell? ⟨B, 0, none⟩ = some (.slice Ao out.length co)) (hr : Reads w w.heap.size 1 Ao out.length (II out)) :
  Calls Tryz.prog 131 #[.agg #[.int .i64 x.id, .int .i64 x.kd, .int .i64 x.ln, .string x.s, .slice A' x.es.length c'], .pointer (some ⟨B, 0, none⟩)] w fun r w' => r = .returned (.bool (!decide (x.id ∈ out))) ∧ Below w.heap.size w w' := by
 obtain ⟨xi, xk, xl, xt, es⟩ := x
 have Hr := Lib.hid hr
 have hlt := World.block_lt_of_cell? _ _ hB
 simp only at hlt
 clear hr
 go_enter Tryz.func131, Tryz.ntmps131
 go_wp2_with fail
 refine (containsI_any Ao out.length co out xi hn _ ((Hr.out.below (belA (bel0 w) _)).more (by simp))).mono ?_
 rintro e w1 ⟨rfl, hb1⟩
 go_wp2
 go_ret
 exact ⟨rfl, belN (belA (bel0 w) _) hb1⟩

theorem volOk_fin {nx : Int} {xs : List InoD} {out : List Int} (hnx : 2 ≤ nx ∧ nx ≤ 100000) (hn : 1 ≤ xs.length ∧ xs.length ≤ 16) (hh : ∃ x, xs[0]? = some x ∧ x.id = 1 ∧ x.kd = 2) (hr : ∀ j, RowP nx xs j) (hiff : ∀ y, y ∈ out ↔ Rch xs 1 y) :
  (!(xs.drop 1).any fun x => !decide (x.id ∈ out)) = volOkB nx xs := by
 rw [List.not_any_eq_all_not]
 cases hv2 : volOkB nx xs with
 | true =>
  have hp := volOkB_iff.1 hv2
  rw [List.all_eq_true]
  intro x hx
  obtain ⟨j, hj, rfl⟩ := List.getElem_of_mem hx
  rw [List.length_drop] at hj
  have h9 := (hiff _).2 (hp.reach (1 + j) (by omega) (by omega))
  simp only [List.getElem_drop, Bool.not_not, decide_eq_true_eq]
  exact h9
 | false =>
  cases hal : (xs.drop 1).all (fun x => !!decide (x.id ∈ out)) with
  | false => rfl
  | true =>
   exfalso
   rw [List.all_eq_true] at hal
   have : volOkB nx xs = true := volOkB_iff.2 ⟨hnx, hn, hh, fun j hj => hr j hj, fun j hj h1 => by
    have h2 := hal (xs[j]) (by
     rw [List.mem_iff_getElem]
     exact ⟨j - 1, by rw [List.length_drop]; omega, by rw [List.getElem_drop]; congr 1; omega⟩)
    exact (hiff _).1 (by simpa using h2)⟩
   rw [hv2] at this; cases this
theorem IC_drop : ∀ (xs : List InoD) (vs : List Value), (IC xs vs).drop 5 = IC (xs.drop 1) (vs.drop 1)
 | [], _ => by simp [IC]
 | x :: xs, [] => by
  cases xs <;> simp [IC]
 | x :: xs, v :: vs => rfl
/-- All inodes but the first. -/
theorem VAt.tail {w : World} {B : Nat} {A : Option Addr} {n c : Nat} {xs : List InoD} (h : VAt w B A n xs) (hn : 1 ≤ n) (hc : n ≤ c) : VAt w B (if c = 1 then A else A.map (·.add 5)) (n - 1) (xs.drop 1) := by
 obtain ⟨vs, h1, h2, h2', h3⟩ := h
 have h4 := h1.cut hn hc
 rw [Nat.one_mul, IC_drop] at h4
 refine ⟨vs.drop 1, h4, by simp [h2], by simp [h2'], fun i hi => ?_⟩
 rw [List.length_drop] at hi
 obtain ⟨A', c', h5, h6⟩ := h3 (i + 1) (by omega)
 refine ⟨A', c', ?_, ?_⟩
 ·rw [List.getElem?_drop, Nat.add_comm 1 i, h5]; simp
 ·simp only [List.getElem_drop, Nat.add_comm 1 i]; exact h6

set_option maxRecDepth 100000 in
set_option maxHeartbeats 1600000 in
theorem volOk_impl (v : Value) (V : VolD) (sm : szV V ≤ 1048576) (w : World) (hT : Tab w) (hC : IsVolC w v V) :
  Calls Tryz.prog 63 #[v] w fun e w' => e = .returned (.bool (volOkB V.nx V.xs)) ∧ Below w.heap.size w w' := by
 have Hino := Lib.hid (fun x hx A' c' W hT hW hr => inodeOk_impl v V sm x hx A' c' W hT hW hr)
 have Hbel := Lib.hid (fun W hW => below_impl v V (v_len sm) (v_all sm) 1 W hW)
 have hv := Lib.hid hC.is
 have hn := v_len sm
 have HT := Lib.hid hT
 obtain ⟨A, c, rfl, h, hcap⟩ := hC
 obtain ⟨nx, xs⟩ := V
 simp only at h hn Hino Hbel hcap ⊢
 have H := Lib.hid h
 clear h hT sm
 obtain ⟨n, hn'⟩ : ∃ n, xs.length = n := ⟨_, rfl⟩
 have HL := Lib.hid hn'
 simp only [hn'] at H hn Hino Hbel hv hcap ⊢
 clear hn'
 obtain ⟨W1, hW1⟩ : ∃ W1, w.alloc (.cells #[.int .i64 nx, .slice A n c] 30) = W1 := ⟨_, rfl⟩
 have B1 : Below w.heap.size w W1 := by rw [← hW1]; exact belA (bel0 w) _
 have S1 : W1.heap.size = w.heap.size + 1 := by rw [← hW1]; simp
 have hV : Blk W1 w.heap.size 30 #[.int .i64 nx, .slice A n c] := by rw [← hW1]; exact Blk.new' _ _ _ _ rfl
 have HW1 := Lib.hid hW1
 have V0 := Lib.hid (hV.get 0 rfl)
 have V1 := Lib.hid (hV.get 1 rfl)
 have H1 := Lib.hid ((H.out.below B1).more B1.size)
 clear hW1 hV
 rcases hin : inI nx 2 100000 with _ | _
 ·have Hf := Lib.hid (volOk_no (nx := nx) (xs := xs) fun hp => by have := inI_true.2 hp.next; rw [hin] at this; cases this)
  have Hin := Lib.hid hin
  clear hin
  go_enter Tryz.func63, Tryz.ntmps63
  go_wp2_with (go_at_call 124; refine (within_any _ _ _ _).mono ?_; rintro e w' ⟨rfl, rfl⟩; rw [Hin.out])
  go_ret
  exact ⟨ret_bool Hf.out.symm, belA (bel0 w) _⟩
 rcases hin2 : inI (n : Int) 1 16 with _ | _
 ·have Hf := Lib.hid (volOk_no (nx := nx) (xs := xs) fun hp => by
   have h1 := hp.n
   rw [HL.out] at h1
   have := inI_true.2 (show (1 : Int) ≤ (n : Int) ∧ (n : Int) ≤ 16 by omega)
   rw [hin2] at this; cases this)
  have Hin := Lib.hid hin
  have Hin2 := Lib.hid hin2
  clear hin hin2
  go_enter Tryz.func63, Tryz.ntmps63
  go_wp2_with (go_at_call 124; refine (within_any _ _ _ _).mono ?_; rintro e w' ⟨rfl, rfl⟩; first | rw [Hin.out] | rw [Hin2.out])
  go_ret
  exact ⟨ret_bool Hf.out.symm, belA (bel0 w) _⟩
 obtain ⟨hnx2, hnx9⟩ := inI_true.1 hin
 have hn16 := inI_true.1 hin2
 have Hin := Lib.hid hin
 have Hin2 := Lib.hid hin2
 have hn0 : 0 < n := by omega
 clear hin hin2
 obtain ⟨hkx0, b0, o0, A0', c0', rfl, hadb0, z0, z1, z2, z3, z4, hrow0⟩ := H.out.at_ hn0
 have hbw : b0 < w.heap.size := hadb0
 have y0 := keep1 B1 z0 (Nat.le_refl _)
 have y1 := keep1 B1 z1 (Nat.le_refl _)
 clear hrow0 z2 z3 z4 z0 z1
 simp only [Nat.zero_mul, Nat.add_zero] at y0 y1
 by_cases hh : xs[0].id = 1 ∧ xs[0].kd = 2
 rotate_left
 ·have Hf := Lib.hid (volOk_no (nx := nx) (xs := xs) fun hp => by
   obtain ⟨x, h1, h2, h3⟩ := hp.head
   have := head_is hkx0 h1
   rw [this] at hh; exact hh ⟨h2, h3⟩)
  by_cases hid : xs[0].id = 1
  ·have hkd : (xs[0].kd != 2) = true := by simpa using fun h => hh ⟨hid, h⟩
   rw [hid] at y0
   clear hh hid
   go_enter Tryz.func63, Tryz.ntmps63
   go_wp2_with fail
   rw [HW1.out]
   have v0 := V0.out
   have v1 := V1.out
   refine (within_any _ _ _ _).mono ?_
   rintro e w' ⟨rfl, rfl⟩
   rw [Hin.out]
   go_wp2_with fail
   refine (within_any _ _ _ _).mono ?_
   rintro e w' ⟨rfl, rfl⟩
   rw [Hin2.out]
   go_wp2_with fail
   go_ret
   exact ⟨ret_bool Hf.out.symm, B1⟩
  ·have hid2 : (xs[0].id != 1) = true := by simpa using hid
   clear hh hid
   go_enter Tryz.func63, Tryz.ntmps63
   go_wp2_with fail
   rw [HW1.out]
   have v0 := V0.out
   have v1 := V1.out
   refine (within_any _ _ _ _).mono ?_
   rintro e w' ⟨rfl, rfl⟩
   rw [Hin.out]
   go_wp2_with fail
   refine (within_any _ _ _ _).mono ?_
   rintro e w' ⟨rfl, rfl⟩
   rw [Hin2.out]
   go_wp2_with fail
   go_ret
   exact ⟨ret_bool Hf.out.symm, B1⟩
 ·obtain ⟨hid, hkd⟩ := hh
  have Hhead := Lib.hid (show ∃ x, xs[0]? = some x ∧ x.id = 1 ∧ x.kd = 2 from ⟨xs[0], List.getElem?_eq_getElem hkx0, hid, hkd⟩)
  rw [hid] at y0
  rw [hkd] at y1
  clear hid hkd
  go_enter Tryz.func63, Tryz.ntmps63
  go_wp2_with fail
  rw [HW1.out]
  have v0 := V0.out
  have v1 := V1.out
  refine (within_any _ _ _ _).mono ?_
  rintro e w' ⟨rfl, rfl⟩
  rw [Hin.out]
  go_wp2_with fail
  refine (within_any _ _ _ _).mono ?_
  rintro e w' ⟨rfl, rfl⟩
  rw [Hin2.out]
  go_wp2_with fail
  clear v0 v1 y0 y1
  go_loopw [38] (fun i wr => ∃ (k : Nat) (K : Int), k ≤ n ∧ i = .int .i64 K ∧ Hid (K = (k : Int)) ∧ Hid (∀ j, j < k → RowP nx xs j) ∧ Below W1.heap.size W1 wr)
   (fun i _ => n - (intOf i).toNat)
  case atStart => exact ⟨0, 0, by omega, rfl, rfl, fun j h => absurd h (by omega), bel0 W1⟩
  case round =>
   obtain ⟨k, K, hk, rfl, HK, hrows, hbel⟩ := hrel
   have v0 := keep1 hbel V0.out (Nat.le_refl _)
   have v1 := keep1 hbel V1.out (Nat.le_refl _)
   have kn : K.toNat = k := by have := HK.out; omega
   have k0 : 0 ≤ K := by have := HK.out; omega
   by_cases hlt : k < n
   ·have k1 : K < (n : Int) := by have := HK.out; omega
    obtain ⟨hkx, b, o, A', c', hA, hadb, z0, z1, z2, z3, z4, hrow⟩ := (H1.out.below hbel).at_ hlt
    obtain ⟨rfl, rfl⟩ : b0 = b ∧ o0 = o := by simpa using hA
    clear hA
    obtain ⟨x, hx⟩ : ∃ x, xs[k] = x := ⟨_, rfl⟩
    have HX := Lib.hid hx
    have hmem : xs[k] ∈ xs := List.getElem_mem hkx
    rw [hx] at z0 z1 z2 z3 z4 hrow hmem
    clear hx
    obtain ⟨xi, xk, xl, xt, es⟩ := x
    simp only at z0 z1 z2 z3 z4 hrow
    have Hinok := Lib.hid (Hino.out _ hmem A' c')
    simp only at Hinok
    obtain ⟨W3, hW3⟩ : ∃ W3, wr.alloc (.cells #[.int .i64 xi, .int .i64 xk, .int .i64 xl, .string xt, .slice A' es.length c'] 70) = W3 := ⟨_, rfl⟩
    have b3 : Below W1.heap.size W1 W3 := by rw [← hW3]; exact hbel.alloc hbel.size _
    have hE : Blk W3 wr.heap.size 70 #[.int .i64 xi, .int .i64 xk, .int .i64 xl, .string xt, .slice A' es.length c'] := by rw [← hW3]; exact Blk.new' _ _ _ _ rfl
    have hb3 : Below wr.heap.size wr W3 := by rw [← hW3]; exact belA (bel0 wr) _
    have Hrow3 := Lib.hid (((hrow.more hbel.size).below hb3).more hb3.size)
    have HW3 := Lib.hid hW3
    have V30 := Lib.hid (keep1 b3 V0.out (Nat.le_refl _))
    have V31 := Lib.hid (keep1 b3 V1.out (Nat.le_refl _))
    have E0 := Lib.hid (hE.get 0 rfl)
    have E1 := Lib.hid (hE.get 1 rfl)
    have E2 := Lib.hid (hE.get 2 rfl)
    have E3 := Lib.hid (hE.get 3 rfl)
    have E4 := Lib.hid (hE.get 4 rfl)
    have El := hE.lt
    have hwn : IntKind.i64.wrap (nx - 1) = nx - 1 := IntWalk.i64_in _ (by omega)
    clear hW3 hE hrow hmem
    go_wp2_with fail
    rw [HW3.out]
    clear v0 v1 z0 z1 z2 z3 z4
    have v0 := V30.out
    have v1 := V31.out
    have e0 := E0.out
    rcases hi : inI xi 1 (nx - 1) with _ | _
    ·have Hf := Lib.hid (volOk_no (nx := nx) (xs := xs) fun hp => by
      have h1 := hp.row k hkx
      rw [HX.out] at h1
      have := inI_true.2 ⟨h1.1, h1.2.1⟩
      rw [hi] at this; cases this)
     go_quiet ((first | (go_at_call 124; exact Calls.quiet_of_same (within_q _ _ _ _))))
     go_wp2
     go_ret
     exact ⟨ret_bool Hf.out.symm, below_drewN (belN B1 b3) _⟩
    have hib := inI_true.1 hi
    have HI := Lib.hid hi
    by_cases hkz : k = 0
    ·obtain rfl : K = 0 := by have := HK.out; omega
     have Hrow9 := Lib.hid (show inoOkB xs ⟨xi, xk, xl, xt, es⟩ = true → RowP nx xs k from fun h hk => by
      rw [HX.out]; exact ⟨hib.1, hib.2, fun h0 => absurd h0 (by omega), h⟩)
     have e1 := E1.out
     have e2 := E2.out
     have e3 := E3.out
     have e4 := E4.out
     refine wp_region_held_drew (S := fun w' => w'.cell? ⟨w.heap.size, 0, none⟩ = some (.int .i64 nx) ∧ w'.cell? ⟨w.heap.size, 1, none⟩ = some (.slice (some ⟨b0, o0, none⟩) n c) ∧ w'.cell? ⟨wr.heap.size, 0, none⟩ = some (.int .i64 xi) ∧ w'.cell? ⟨wr.heap.size, 1, none⟩ = some (.int .i64 xk) ∧ w'.cell? ⟨wr.heap.size, 2, none⟩ = some (.int .i64 xl) ∧ w'.cell? ⟨wr.heap.size, 3, none⟩ = some (.string xt) ∧ w'.cell? ⟨wr.heap.size, 4, none⟩ = some (.slice A' es.length c')) (by kernel_rfl) ⟨v0, v1, e0, e1, e2, e3, e4⟩ (fun hHeld => ?_)
     refine wpAnyH_take (i := 0) (oi := ?oi1) (v := ?v1) ?hi1 ?hs1 ?hf1 ?hr1 ?hQ1 ?hy1 ?hS1 ?hrest1
     case hi1 => (conv => lhs; simp only [List.getElem?_toArray, List.getElem?_cons_zero]); try exact rfl
     case hs1 => kernel_rfl
     case hf1 => kernel_rfl
     case hr1 => kernel_rfl
     case hQ1 => exact fun _ _ _ h => h
     case hS1 => assumption
     case hy1 => refine Or.inl ⟨by rfl, ?_⟩; intro w hSw; (try dsimp only at hSw); go_simp; (try with_reducible rfl)
     simp only [Act.put, List.setIfInBounds_toArray, List.set_cons_zero, List.set_cons_succ]
     refine wpAnyH_take (i := 1) (oi := ?oi2) (v := ?v2) ?hi2 ?hs2 ?hf2 ?hr2 ?hQ2 ?hy2 ?hS2 ?hrest2
     case hi2 => (conv => lhs; simp only [List.getElem?_toArray, List.getElem?_cons_zero, List.getElem?_cons_succ]); try exact rfl
     case hs2 => kernel_rfl
     case hf2 => kernel_rfl
     case hr2 => kernel_rfl
     case hQ2 => exact fun _ _ _ h => h
     case hS2 => assumption
     case hy2 => refine Or.inl ⟨by rfl, ?_⟩; intro w hSw; (try dsimp only at hSw); go_simp; (try with_reducible rfl)
     simp only [Act.put, List.setIfInBounds_toArray, List.set_cons_zero, List.set_cons_succ]
     refine wpAnyH_take (i := 2) (oi := ?oi3) (v := ?v3) ?hi3 ?hs3 ?hf3 ?hr3 ?hQ3 ?hy3 ?hS3 ?hrest3
     case hi3 => (conv => lhs; simp only [List.getElem?_toArray, List.getElem?_cons_zero, List.getElem?_cons_succ]); try exact rfl
     case hs3 => kernel_rfl
     case hf3 => kernel_rfl
     case hr3 => kernel_rfl
     case hQ3 => exact fun _ _ _ h => h
     case hS3 => assumption
     case hy3 => refine Or.inl ⟨by rfl, ?_⟩; intro w hSw; (try dsimp only at hSw); go_simp; (try with_reducible rfl)
     simp only [Act.put, List.setIfInBounds_toArray, List.set_cons_zero, List.set_cons_succ]
     refine wpAnyH_take (i := 3) (oi := ?oi4) (v := ?v4) ?hi4 ?hs4 ?hf4 ?hr4 ?hQ4 ?hy4 ?hS4 ?hrest4
     case hi4 => (conv => lhs; simp only [List.getElem?_toArray, List.getElem?_cons_zero, List.getElem?_cons_succ]); try exact rfl
     case hs4 => kernel_rfl
     case hf4 => kernel_rfl
     case hr4 => kernel_rfl
     case hQ4 => exact fun _ _ _ h => h
     case hS4 => assumption
     case hy4 => refine Or.inl ⟨by rfl, ?_⟩; intro w hSw; (try dsimp only at hSw); go_simp; (try with_reducible rfl)
     simp only [Act.put, List.setIfInBounds_toArray, List.set_cons_zero, List.set_cons_succ]
     refine wpAnyH_take (i := 4) (oi := ?oi5) (v := ?v5) ?hi5 ?hs5 ?hf5 ?hr5 ?hQ5 ?hy5 ?hS5 ?hrest5
     case hi5 => (conv => lhs; simp only [List.getElem?_toArray, List.getElem?_cons_zero, List.getElem?_cons_succ]); try exact rfl
     case hs5 => kernel_rfl
     case hf5 => kernel_rfl
     case hr5 => kernel_rfl
     case hQ5 => exact fun _ _ _ h => h
     case hS5 => assumption
     case hy5 => refine Or.inl ⟨by rfl, ?_⟩; intro w hSw; (try dsimp only at hSw); go_simp; (try with_reducible rfl)
     simp only [Act.put, List.setIfInBounds_toArray, List.set_cons_zero, List.set_cons_succ]
     refine wpAnyH_ready (rs := [5]) (by kernel_rfl) (by simp) ?_
     refine AllReadyH.cons (o := ?oi6) ?hi6 (fun K hK => ?_) AllReadyH.nil
     case hi6 => (conv => lhs; simp only [List.getElem?_toArray, List.getElem?_cons_zero, List.getElem?_cons_succ]); try exact rfl
     go_simp
     go_at_call 124
     refine (within_any _ _ _ _).mono ?_
     rintro e w' ⟨rfl, rfl⟩
     refine hK.out _ _ hHeld (fun hHeld6 => ?_)
     clear hK K
     refine wpAnyH_take (i := 6) (oi := ?oi7) (v := ?v7) ?hi7 ?hs7 ?hf7 ?hr7 ?hQ7 ?hy7 ?hS7 ?hrest7
     case hi7 => (conv => lhs; simp only [List.getElem?_toArray, List.getElem?_cons_zero, List.getElem?_cons_succ]); try exact rfl
     case hs7 => kernel_rfl
     case hf7 => kernel_rfl
     case hr7 => kernel_rfl
     case hQ7 => exact fun _ _ _ h => h
     case hS7 => assumption
     case hy7 => refine Or.inl ⟨by rfl, ?_⟩; intro w hSw; (try dsimp only at hSw); go_simp; (try with_reducible rfl)
     simp only [Act.put, List.setIfInBounds_toArray, List.set_cons_zero, List.set_cons_succ]
     refine wpAnyH_take (i := 7) (oi := ?oi8) (v := ?v8) ?hi8 ?hs8 ?hf8 ?hr8 ?hQ8 ?hy8 ?hS8 ?hrest8
     case hi8 => (conv => lhs; simp only [List.getElem?_toArray, List.getElem?_cons_zero, List.getElem?_cons_succ]); try exact rfl
     case hs8 => kernel_rfl
     case hf8 => kernel_rfl
     case hr8 => kernel_rfl
     case hQ8 => exact fun _ _ _ h => h
     case hS8 => assumption
     case hy8 => refine Or.inl ⟨by rfl, ?_⟩; intro w hSw; (try dsimp only at hSw); go_simp; (try with_reducible rfl)
     simp only [Act.put, List.setIfInBounds_toArray, List.set_cons_zero, List.set_cons_succ]
     refine wpAnyH_take (i := 8) (oi := ?oi9) (v := ?v9) ?hi9 ?hs9 ?hf9 ?hr9 ?hQ9 ?hy9 ?hS9 ?hrest9
     case hi9 => (conv => lhs; simp only [List.getElem?_toArray, List.getElem?_cons_zero, List.getElem?_cons_succ]); try exact rfl
     case hs9 => kernel_rfl
     case hf9 => kernel_rfl
     case hr9 => kernel_rfl
     case hQ9 => exact fun _ _ _ h => h
     case hS9 => assumption
     case hy9 => refine Or.inl ⟨by rfl, ?_⟩; intro w hSw; (try dsimp only at hSw); go_simp; (try with_reducible rfl)
     simp only [Act.put, List.setIfInBounds_toArray, List.set_cons_zero, List.set_cons_succ]
     refine wpAnyH_take (i := 9) (oi := ?oi10) (v := ?v10) ?hi10 ?hs10 ?hf10 ?hr10 ?hQ10 ?hy10 ?hS10 ?hrest10
     case hi10 => (conv => lhs; simp only [List.getElem?_toArray, List.getElem?_cons_zero, List.getElem?_cons_succ]); try exact rfl
     case hs10 => kernel_rfl
     case hf10 => kernel_rfl
     case hr10 => kernel_rfl
     case hQ10 => exact fun _ _ _ h => h
     case hS10 => assumption
     case hy10 => refine Or.inl ⟨by rfl, ?_⟩; intro w hSw; (try dsimp only at hSw); go_simp; (try with_reducible rfl)
     simp only [Act.put, List.setIfInBounds_toArray, List.set_cons_zero, List.set_cons_succ]
     refine wpAnyH_take (i := 10) (oi := ?oi11) (v := ?v11) ?hi11 ?hs11 ?hf11 ?hr11 ?hQ11 ?hy11 ?hS11 ?hrest11
     case hi11 => (conv => lhs; simp only [List.getElem?_toArray, List.getElem?_cons_zero, List.getElem?_cons_succ]); try exact rfl
     case hs11 => kernel_rfl
     case hf11 => kernel_rfl
     case hr11 => kernel_rfl
     case hQ11 => exact fun _ _ _ h => h
     case hS11 => assumption
     case hy11 => refine Or.inl ⟨by rfl, ?_⟩; intro w hSw; (try dsimp only at hSw); go_simp; (try with_reducible rfl)
     simp only [Act.put, List.setIfInBounds_toArray, List.set_cons_zero, List.set_cons_succ]
     refine wpAnyH_take (i := 11) (oi := ?oi12) (v := undef) ?hi12 ?hs12 ?hf12 ?hr12 ?hQ12 ?hy12 ?hS12 ?hrest12
     case hi12 => (conv => lhs; simp only [List.getElem?_toArray, List.getElem?_cons_zero, List.getElem?_cons_succ]); try exact rfl
     case hs12 => kernel_rfl
     case hf12 => kernel_rfl
     case hr12 => kernel_rfl
     case hQ12 => exact fun _ _ _ h => h
     case hS12 => assumption
     case hy12 => exact Or.inr ⟨by rfl, rfl⟩
     simp only [Act.put, List.setIfInBounds_toArray, List.set_cons_zero, List.set_cons_succ]
     refine wpAnyH_take (i := 12) (oi := ?oi13) (v := undef) ?hi13 ?hs13 ?hf13 ?hr13 ?hQ13 ?hy13 ?hS13 ?hrest13
     case hi13 => (conv => lhs; simp only [List.getElem?_toArray, List.getElem?_cons_zero, List.getElem?_cons_succ]); try exact rfl
     case hs13 => kernel_rfl
     case hf13 => kernel_rfl
     case hr13 => kernel_rfl
     case hQ13 => exact fun _ _ _ h => h
     case hS13 => assumption
     case hy13 => exact Or.inr ⟨by rfl, rfl⟩
     simp only [Act.put, List.setIfInBounds_toArray, List.set_cons_zero, List.set_cons_succ]
     refine wpAnyH_take (i := 13) (oi := ?oi14) (v := undef) ?hi14 ?hs14 ?hf14 ?hr14 ?hQ14 ?hy14 ?hS14 ?hrest14
     case hi14 => (conv => lhs; simp only [List.getElem?_toArray, List.getElem?_cons_zero, List.getElem?_cons_succ]); try exact rfl
     case hs14 => kernel_rfl
     case hf14 => kernel_rfl
     case hr14 => kernel_rfl
     case hQ14 => exact fun _ _ _ h => h
     case hS14 => assumption
     case hy14 => exact Or.inr ⟨by rfl, rfl⟩
     simp only [Act.put, List.setIfInBounds_toArray, List.set_cons_zero, List.set_cons_succ]
     refine wpAnyH_take (i := 14) (oi := ?oi15) (v := undef) ?hi15 ?hs15 ?hf15 ?hr15 ?hQ15 ?hy15 ?hS15 ?hrest15
     case hi15 => (conv => lhs; simp only [List.getElem?_toArray, List.getElem?_cons_zero, List.getElem?_cons_succ]); try exact rfl
     case hs15 => kernel_rfl
     case hf15 => kernel_rfl
     case hr15 => kernel_rfl
     case hQ15 => exact fun _ _ _ h => h
     case hS15 => assumption
     case hy15 => exact Or.inr ⟨by rfl, rfl⟩
     simp only [Act.put, List.setIfInBounds_toArray, List.set_cons_zero, List.set_cons_succ]
     refine wpAnyH_take (i := 15) (oi := ?oi16) (v := undef) ?hi16 ?hs16 ?hf16 ?hr16 ?hQ16 ?hy16 ?hS16 ?hrest16
     case hi16 => (conv => lhs; simp only [List.getElem?_toArray, List.getElem?_cons_zero, List.getElem?_cons_succ]); try exact rfl
     case hs16 => kernel_rfl
     case hf16 => kernel_rfl
     case hr16 => kernel_rfl
     case hQ16 => exact fun _ _ _ h => h
     case hS16 => assumption
     case hy16 => exact Or.inr ⟨by rfl, rfl⟩
     simp only [Act.put, List.setIfInBounds_toArray, List.set_cons_zero, List.set_cons_succ]
     refine wpAnyH_take (i := 16) (oi := ?oi17) (v := undef) ?hi17 ?hs17 ?hf17 ?hr17 ?hQ17 ?hy17 ?hS17 ?hrest17
     case hi17 => (conv => lhs; simp only [List.getElem?_toArray, List.getElem?_cons_zero, List.getElem?_cons_succ]); try exact rfl
     case hs17 => kernel_rfl
     case hf17 => kernel_rfl
     case hr17 => kernel_rfl
     case hQ17 => exact fun _ _ _ h => h
     case hS17 => assumption
     case hy17 => exact Or.inr ⟨by rfl, rfl⟩
     simp only [Act.put, List.setIfInBounds_toArray, List.set_cons_zero, List.set_cons_succ]
     refine wpAnyH_take (i := 17) (oi := ?oi18) (v := undef) ?hi18 ?hs18 ?hf18 ?hr18 ?hQ18 ?hy18 ?hS18 ?hrest18
     case hi18 => (conv => lhs; simp only [List.getElem?_toArray, List.getElem?_cons_zero, List.getElem?_cons_succ]); try exact rfl
     case hs18 => kernel_rfl
     case hf18 => kernel_rfl
     case hr18 => kernel_rfl
     case hQ18 => exact fun _ _ _ h => h
     case hS18 => assumption
     case hy18 => exact Or.inr ⟨by rfl, rfl⟩
     simp only [Act.put, List.setIfInBounds_toArray, List.set_cons_zero, List.set_cons_succ]
     refine wpAnyH_take (i := 18) (oi := ?oi19) (v := undef) ?hi19 ?hs19 ?hf19 ?hr19 ?hQ19 ?hy19 ?hS19 ?hrest19
     case hi19 => (conv => lhs; simp only [List.getElem?_toArray, List.getElem?_cons_zero, List.getElem?_cons_succ]); try exact rfl
     case hs19 => kernel_rfl
     case hf19 => kernel_rfl
     case hr19 => kernel_rfl
     case hQ19 => exact fun _ _ _ h => h
     case hS19 => assumption
     case hy19 => exact Or.inr ⟨by rfl, rfl⟩
     simp only [Act.put, List.setIfInBounds_toArray, List.set_cons_zero, List.set_cons_succ]
     refine wpAnyH_take (i := 19) (oi := ?oi20) (v := undef) ?hi20 ?hs20 ?hf20 ?hr20 ?hQ20 ?hy20 ?hS20 ?hrest20
     case hi20 => (conv => lhs; simp only [List.getElem?_toArray, List.getElem?_cons_zero, List.getElem?_cons_succ]); try exact rfl
     case hs20 => kernel_rfl
     case hf20 => kernel_rfl
     case hr20 => kernel_rfl
     case hQ20 => exact fun _ _ _ h => h
     case hS20 => assumption
     case hy20 => exact Or.inr ⟨by rfl, rfl⟩
     simp only [Act.put, List.setIfInBounds_toArray, List.set_cons_zero, List.set_cons_succ]
     refine wpAnyH_take (i := 20) (oi := ?oi21) (v := undef) ?hi21 ?hs21 ?hf21 ?hr21 ?hQ21 ?hy21 ?hS21 ?hrest21
     case hi21 => (conv => lhs; simp only [List.getElem?_toArray, List.getElem?_cons_zero, List.getElem?_cons_succ]); try exact rfl
     case hs21 => kernel_rfl
     case hf21 => kernel_rfl
     case hr21 => kernel_rfl
     case hQ21 => exact fun _ _ _ h => h
     case hS21 => assumption
     case hy21 => exact Or.inr ⟨by rfl, rfl⟩
     simp only [Act.put, List.setIfInBounds_toArray, List.set_cons_zero, List.set_cons_succ]
     refine wpAnyH_take (i := 21) (oi := ?oi22) (v := ?v22) ?hi22 ?hs22 ?hf22 ?hr22 ?hQ22 ?hy22 ?hS22 ?hrest22
     case hi22 => (conv => lhs; simp only [List.getElem?_toArray, List.getElem?_cons_zero, List.getElem?_cons_succ]); try exact rfl
     case hs22 => kernel_rfl
     case hf22 => kernel_rfl
     case hr22 => kernel_rfl
     case hQ22 => exact fun _ _ _ h => h
     case hS22 => assumption
     case hy22 => refine Or.inl ⟨by rfl, ?_⟩; intro w hSw; (try dsimp only at hSw); go_simp; (try with_reducible rfl)
     simp only [Act.put, List.setIfInBounds_toArray, List.set_cons_zero, List.set_cons_succ]
     refine wpAnyH_take (i := 22) (oi := ?oi23) (v := ?v23) ?hi23 ?hs23 ?hf23 ?hr23 ?hQ23 ?hy23 ?hS23 ?hrest23
     case hi23 => (conv => lhs; simp only [List.getElem?_toArray, List.getElem?_cons_zero, List.getElem?_cons_succ]); try exact rfl
     case hs23 => kernel_rfl
     case hf23 => kernel_rfl
     case hr23 => kernel_rfl
     case hQ23 => exact fun _ _ _ h => h
     case hS23 => assumption
     case hy23 => refine Or.inl ⟨by rfl, ?_⟩; intro w hSw; (try dsimp only at hSw); go_simp; (try with_reducible rfl)
     simp only [Act.put, List.setIfInBounds_toArray, List.set_cons_zero, List.set_cons_succ]
     refine wpAnyH_take (i := 23) (oi := ?oi24) (v := ?v24) ?hi24 ?hs24 ?hf24 ?hr24 ?hQ24 ?hy24 ?hS24 ?hrest24
     case hi24 => (conv => lhs; simp only [List.getElem?_toArray, List.getElem?_cons_zero, List.getElem?_cons_succ]); try exact rfl
     case hs24 => kernel_rfl
     case hf24 => kernel_rfl
     case hr24 => kernel_rfl
     case hQ24 => exact fun _ _ _ h => h
     case hS24 => assumption
     case hy24 => refine Or.inl ⟨by rfl, ?_⟩; intro w hSw; (try dsimp only at hSw); go_simp; (try with_reducible rfl)
     simp only [Act.put, List.setIfInBounds_toArray, List.set_cons_zero, List.set_cons_succ]
     refine wpAnyH_take (i := 24) (oi := ?oi25) (v := ?v25) ?hi25 ?hs25 ?hf25 ?hr25 ?hQ25 ?hy25 ?hS25 ?hrest25
     case hi25 => (conv => lhs; simp only [List.getElem?_toArray, List.getElem?_cons_zero, List.getElem?_cons_succ]); try exact rfl
     case hs25 => kernel_rfl
     case hf25 => kernel_rfl
     case hr25 => kernel_rfl
     case hQ25 => exact fun _ _ _ h => h
     case hS25 => assumption
     case hy25 => refine Or.inl ⟨by rfl, ?_⟩; intro w hSw; (try dsimp only at hSw); go_simp; (try with_reducible rfl)
     simp only [Act.put, List.setIfInBounds_toArray, List.set_cons_zero, List.set_cons_succ]
     refine wpAnyH_take (i := 25) (oi := ?oi26) (v := ?v26) ?hi26 ?hs26 ?hf26 ?hr26 ?hQ26 ?hy26 ?hS26 ?hrest26
     case hi26 => (conv => lhs; simp only [List.getElem?_toArray, List.getElem?_cons_zero, List.getElem?_cons_succ]); try exact rfl
     case hs26 => kernel_rfl
     case hf26 => kernel_rfl
     case hr26 => kernel_rfl
     case hQ26 => exact fun _ _ _ h => h
     case hS26 => assumption
     case hy26 => refine Or.inl ⟨by rfl, ?_⟩; intro w hSw; (try dsimp only at hSw); go_simp; (try with_reducible rfl)
     simp only [Act.put, List.setIfInBounds_toArray, List.set_cons_zero, List.set_cons_succ]
     refine wpAnyH_ready (rs := [26]) (by kernel_rfl) (by simp) ?_
     refine AllReadyH.cons (o := ?oi27) ?hi27 (fun K hK => ?_) AllReadyH.nil
     case hi27 => (conv => lhs; simp only [List.getElem?_toArray, List.getElem?_cons_zero, List.getElem?_cons_succ]); try exact rfl
     go_simp
     go_at_call 129
     refine (Hinok.out W3.drew (HT.out.bl (belN B1 b3).drew) (hv.out.next (belN B1 b3).drew) Hrow3.out.drew).mono ?_
     rintro e w7 ⟨rfl, hb7⟩
     refine hK.out _ _ (by obtain ⟨a0, a1, a2, a3, a4, a5, a6⟩ := hHeld6; exact ⟨keep1 hb7 a0 (Nat.le_refl _), keep1 hb7 a1 (Nat.le_refl _), keep1 hb7 a2 (Nat.le_refl _), keep1 hb7 a3 (Nat.le_refl _), keep1 hb7 a4 (Nat.le_refl _), keep1 hb7 a5 (Nat.le_refl _), keep1 hb7 a6 (Nat.le_refl _)⟩) (fun hHeld27 => ?_)
     clear hK K
     clear hHeld6
     refine wpAnyH_take (i := 27) (oi := ?oi28) (v := ?v28) ?hi28 ?hs28 ?hf28 ?hr28 ?hQ28 ?hy28 ?hS28 ?hrest28
     case hi28 => (conv => lhs; simp only [List.getElem?_toArray, List.getElem?_cons_zero, List.getElem?_cons_succ]); try exact rfl
     case hs28 => kernel_rfl
     case hf28 => kernel_rfl
     case hr28 => kernel_rfl
     case hQ28 => exact fun _ _ _ h => h
     case hS28 => assumption
     case hy28 => refine Or.inl ⟨by rfl, ?_⟩; intro w hSw; (try dsimp only at hSw); go_simp; (try with_reducible rfl)
     simp only [Act.put, List.setIfInBounds_toArray, List.set_cons_zero, List.set_cons_succ]
     refine wpAnyH_take (i := 28) (oi := ?oi29) (v := ?v29) ?hi29 ?hs29 ?hf29 ?hr29 ?hQ29 ?hy29 ?hS29 ?hrest29
     case hi29 => (conv => lhs; simp only [List.getElem?_toArray, List.getElem?_cons_zero, List.getElem?_cons_succ]); try exact rfl
     case hs29 => kernel_rfl
     case hf29 => kernel_rfl
     case hr29 => kernel_rfl
     case hQ29 => exact fun _ _ _ h => h
     case hS29 => assumption
     case hy29 => refine Or.inl ⟨by rfl, ?_⟩; intro w hSw; (try dsimp only at hSw); go_simp; (try with_reducible rfl)
     simp only [Act.put, List.setIfInBounds_toArray, List.set_cons_zero, List.set_cons_succ]
     refine wpAnyH_done (by kernel_rfl) ?_ _
     have b7 := b3.drew.trans (hb7.mono b3.size)
     rcases hok : inoOkB xs ⟨xi, xk, xl, xt, es⟩ with _ | _
     ·have Hf := Lib.hid (volOk_no (nx := nx) (xs := xs) fun hp => by
       have := (hp.row k hkx).2.2.2
       rw [HX.out, hok] at this; cases this)
      go_wp2
      go_ret
      exact ⟨ret_bool Hf.out.symm, belN B1 b7⟩
     ·have Hnx := Lib.hid (show ∀ j, j < k + 1 → RowP nx xs j from fun j' hj => by
       by_cases he : j' = k
       ·subst he; exact Hrow9.out hok
       ·exact hrows.out j' (by omega))
      go_wp2
      go_roundw
      case rel => exact ⟨k + 1, 1, by omega, by go_num, by have := HK.out; show _ = _; omega, Hnx, b7⟩
      case measure => simp [intOf]; omega
    ·obtain ⟨j, hj⟩ : ∃ j, k = j + 1 := ⟨k - 1, by omega⟩
     have hK0 : 0 < K := by have := HK.out; omega
     have hK1 : IntKind.i64.wrap (K - 1) = (j : Int) := by rw [IntWalk.i64_in _ (by omega)]; have := HK.out; omega
     have j0 : (0 : Int) ≤ (j : Int) := by omega
     have j1 : (j : Int) < (n : Int) := by omega
     have hjn : j < n := by omega
     have hk1x : k - 1 < xs.length := by omega
     obtain ⟨hjx, b', o', _, _, hA', _, y0, _⟩ := (H1.out.below b3).at_ hjn
     obtain ⟨rfl, rfl⟩ : b0 = b' ∧ o0 = o' := by simpa using hA'
     clear hA'
     obtain ⟨y, hy⟩ : ∃ y, xs[j].id = y := ⟨_, rfl⟩
     have HY := Lib.hid hy
     rw [hy] at y0
     clear hy
     have hprev : xs[k - 1]'hk1x = xs[j] := by congr 1; omega
     have Hprev := Lib.hid hprev
     clear hprev
     by_cases hge : xi ≤ y
     ·have Hf := Lib.hid (volOk_no (nx := nx) (xs := xs) fun hp => by
       have h1 := (hp.row k hkx).2.2.1 (by omega)
       rw [Hprev.out, HY.out, HX.out] at h1
       simp only at h1
       omega)
      go_quiet ((first | (go_at_call 124; exact Calls.quiet_of_same (within_q _ _ _ _))))
      go_wp2
      go_ret
      exact ⟨ret_bool Hf.out.symm, below_drewN (belN B1 b3) _⟩
     ·have hge2 : decide (xi ≤ y) = false := by simp; omega
      have Hrow9 := Lib.hid (show inoOkB xs ⟨xi, xk, xl, xt, es⟩ = true → RowP nx xs k from fun h hk => by
       rw [HX.out]; exact ⟨hib.1, hib.2, fun h0 => by rw [Hprev.out, HY.out]; simp only; omega, h⟩)
      clear hi
      have e1 := E1.out
      have e2 := E2.out
      have e3 := E3.out
      have e4 := E4.out
      go_region_held3 (fun w' => w'.cell? ⟨w.heap.size, 0, none⟩ = some (.int .i64 nx) ∧ w'.cell? ⟨w.heap.size, 1, none⟩ = some (.slice (some ⟨b0, o0, none⟩) n c) ∧ w'.cell? ⟨wr.heap.size, 0, none⟩ = some (.int .i64 xi) ∧ w'.cell? ⟨wr.heap.size, 1, none⟩ = some (.int .i64 xk) ∧ w'.cell? ⟨wr.heap.size, 2, none⟩ = some (.int .i64 xl) ∧ w'.cell? ⟨wr.heap.size, 3, none⟩ = some (.string xt) ∧ w'.cell? ⟨wr.heap.size, 4, none⟩ = some (.slice A' es.length c') ∧ w'.cell? ⟨b0, o0 + j * 5, none⟩ = some (.int .i64 y))
       (first | go_keep | (refine ⟨keep1 hb7 ?_, keep1 hb7 ?_, keep1 hb7 ?_, keep1 hb7 ?_, keep1 hb7 ?_, keep1 hb7 ?_, keep1 hb7 ?_, keep1 hb7 ?_⟩ <;> go_keep))
       (first
        | (go_at_call 124; refine (within_any _ _ _ _).mono ?_; rintro e w' ⟨rfl, rfl⟩; rw [HI.out])
        | (go_at_call 129; refine (Hinok.out W3.drew (HT.out.bl (belN B1 b3).drew) (hv.out.next (belN B1 b3).drew) Hrow3.out.drew).mono ?_; rintro e w7 ⟨rfl, hb7⟩))
      have b7 := b3.drew.trans (hb7.mono b3.size)
      rcases hok : inoOkB xs ⟨xi, xk, xl, xt, es⟩ with _ | _
      ·have Hf := Lib.hid (volOk_no (nx := nx) (xs := xs) fun hp => by
        have := (hp.row k hkx).2.2.2
        rw [HX.out, hok] at this; cases this)
       go_wp2
       go_ret
       exact ⟨ret_bool Hf.out.symm, belN B1 b7⟩
      ·have Hnx := Lib.hid (show ∀ j, j < k + 1 → RowP nx xs j from fun j' hj => by
        by_cases he : j' = k
        ·subst he; exact Hrow9.out hok
        ·exact hrows.out j' (by omega))
       go_wp2
       go_roundw
       case rel => exact ⟨k + 1, K + 1, by omega, by go_num, by have := HK.out; show _ = _; omega, Hnx, b7⟩
       case measure => simp [intOf]; omega
   ·obtain rfl : k = n := by omega
    have hKn : ¬ (K < (k : Int)) := by have := HK.out; omega
    have Hrp := Lib.hid (show ∀ j, RowP nx xs j from fun j hj => hrows.out j (by have := HL.out; omega) hj)
    go_wp2_with fail
    refine (Hbel.out wr (hv.out.next (belN B1 hbel))).mono ?_
    rintro e w5 ⟨vo, out, rfl, hown, hiff, hol, hb5⟩
    obtain ⟨Ao, co, rfl, _, _, hrd⟩ := own_vals hown
    have b5 := hbel.trans (hb5.mono hbel.size)
    clear v0 v1 hown
    have v0 := keep1 b5 V0.out (Nat.le_refl _)
    have v1 := keep1 b5 V1.out (Nat.le_refl _)
    have hmf : ∀ (fn : Fn) (first cap : Array Value) (w : World), (Instr.makeFunc fn first cap).run Tryz.prog w = .ok (.func fn first cap) w := fun _ _ _ _ => rfl
    have hw5 : w.heap.size < w5.heap.size := by have := b5.size; omega
    have Hiff := Lib.hid hiff
    have Hrd := Lib.hid hrd
    clear hiff hrd
    have HcapH := Lib.hid (H1.out.below b5)
    have hB6 := Blk.new' w5 121 #[.slice Ao out.length co] w5.heap.size
    have b6 := belA (bel0 w5) (.cells #[.slice Ao out.length co] 121)
    have hcl : ∀ A5 c5 n5, VAt w5 w5.heap.size A5 n5 (xs.drop 1) → n5 ≤ 10000000 → Calls Tryz.prog 130 #[.slice A5 n5 c5, .func (.func 131) #[] #[.pointer (some ⟨w5.heap.size, 0, none⟩)]] (w5.alloc (.cells #[.slice Ao out.length co] 121)) fun e w' => e = .returned (.bool ((xs.drop 1).any fun x => !decide (x.id ∈ out))) ∧ Below (w5.alloc (.cells #[.slice Ao out.length co] 121)).heap.size (w5.alloc (.cells #[.slice Ao out.length co] 121)) w' := by
     intro A5 c5 n5 hV hn5
     refine containsFunc_vol (fun x => !decide (x.id ∈ out)) (.pointer (some ⟨w5.heap.size, 0, none⟩)) A5 n5 c5 (xs.drop 1) (by omega) _ ((hV.below b6).more b6.size) fun W hW x _ A' c' => ?_
     refine volOk_clo Ao co out hol w5.heap.size x A' c' W (keep1 hW (hB6.get 0 rfl) (Nat.le_refl _)) ?_
     exact (((Hrd.out.below b6).more b6.size).below hW).more hW.size
    have Hfin := Lib.hid (volOk_fin (out := out) ⟨hnx2, hnx9⟩ (by have := HL.out; omega) Hhead.out Hrp.out Hiff.out)
    have Hcl := Lib.hid hcl
    clear hcl hB6
    obtain ⟨bb, hbb⟩ : ∃ bb, ((xs.drop 1).any fun x => !decide (x.id ∈ out)) = bb := ⟨_, rfl⟩
    rw [hbb] at Hfin
    simp only [hbb] at Hcl
    clear hbb
    by_cases hc1 : c = 1
    ·subst hc1
     have hk1 : k = 1 := by omega
     subst hk1
     have hV5 := HcapH.out.tail (c := 1) (by omega) hcap
     rw [if_pos rfl] at hV5
     have hV6 : VAt w5 w5.heap.size (some ⟨b0, o0, none⟩) 0 (xs.drop 1) := hV5.more b5.size
     have Hc6 := Lib.hid (Hcl.out _ 0 0 hV6 (Nat.zero_le _))
     clear hV5 hV6
     go_wp2_with fail
     refine Hc6.out.mono ?_
     rintro e w7 ⟨rfl, hb7⟩
     have b7 := belN (belN (belN B1 b5) b6) hb7
     go_wp2
     go_ret
     exact ⟨ret_bool Hfin.out, b7⟩
    ·have hV5 := HcapH.out.tail (c := c) (by omega) hcap
     rw [if_neg hc1] at hV5
     have hV6 : VAt w5 w5.heap.size (some ⟨b0, o0 + 5, none⟩) (k - 1) (xs.drop 1) := by
      have := hV5.more b5.size
      rw [Option.map_some, Addr.add_lit] at this
      exact this
     have Hc6 := Lib.hid (Hcl.out _ (c - 1) (k - 1) hV6 (by omega))
     clear hV5 hV6
     go_wp2_with fail
     refine Hc6.out.mono ?_
     rintro e w7 ⟨rfl, hb7⟩
     have b7 := belN (belN (belN B1 b5) b6) hb7
     go_wp2
     go_ret
     exact ⟨ret_bool Hfin.out, b7⟩

theorem l1In_q (a b c : Int) (w : World) : Calls Tryz.prog 115 #[.int .i64 a, .int .i64 b, .int .i64 c] w fun e w' => e = .returned (.bool (inI a b c)) ∧ w' = w :=
 (l1In_any a b c w).mono fun _ _ ⟨he, hw⟩ => ⟨he, hw.symm⟩

set_option maxRecDepth 100000 in
set_option maxHeartbeats 1600000 in
theorem volOk_spec (v : Value) (V : VolD) (sm : szV V ≤ 1048576) (w : World) (hC : IsVolC w v V) :
  Calls Tryz.prog 49 #[v] w fun e w' => e = .returned (.bool (volOkB V.nx V.xs)) ∧ Below w.heap.size w w' := by
 have Hino := Lib.hid (fun x hx A' c' W hW hr => inodeOk_spec v V sm x hx A' c' W hW hr)
 have Hbel := Lib.hid (fun W hW => l6Below_any v V (v_len sm) (v_all sm) 1 W hW)
 have hv := Lib.hid hC.is
 have hn := v_len sm
 obtain ⟨A, c, rfl, h, hcap⟩ := hC
 obtain ⟨nx, xs⟩ := V
 simp only at h hn Hino Hbel hcap ⊢
 have H := Lib.hid h
 clear h sm
 obtain ⟨n, hn'⟩ : ∃ n, xs.length = n := ⟨_, rfl⟩
 have HL := Lib.hid hn'
 simp only [hn'] at H hn Hino Hbel hv hcap ⊢
 clear hn'
 obtain ⟨W1, hW1⟩ : ∃ W1, w.alloc (.cells #[.int .i64 nx, .slice A n c] 30) = W1 := ⟨_, rfl⟩
 have B1 : Below w.heap.size w W1 := by rw [← hW1]; exact belA (bel0 w) _
 have S1 : W1.heap.size = w.heap.size + 1 := by rw [← hW1]; simp
 have hV : Blk W1 w.heap.size 30 #[.int .i64 nx, .slice A n c] := by rw [← hW1]; exact Blk.new' _ _ _ _ rfl
 have HW1 := Lib.hid hW1
 have V0 := Lib.hid (hV.get 0 rfl)
 have V1 := Lib.hid (hV.get 1 rfl)
 have H1 := Lib.hid ((H.out.below B1).more B1.size)
 clear hW1 hV
 rcases hin : inI nx 2 100000 with _ | _
 ·have Hf := Lib.hid (volOk_no (nx := nx) (xs := xs) fun hp => by have := inI_true.2 hp.next; rw [hin] at this; cases this)
  have Hin := Lib.hid hin
  clear hin
  go_enter Tryz.func49, Tryz.ntmps49
  go_wp2_with (go_at_call 115; refine (l1In_any _ _ _ _).mono ?_; rintro e w' ⟨rfl, rfl⟩; rw [Hin.out])
  go_ret
  exact ⟨ret_bool Hf.out.symm, belA (bel0 w) _⟩
 rcases hin2 : inI (n : Int) 1 16 with _ | _
 ·have Hf := Lib.hid (volOk_no (nx := nx) (xs := xs) fun hp => by
   have h1 := hp.n
   rw [HL.out] at h1
   have := inI_true.2 (show (1 : Int) ≤ (n : Int) ∧ (n : Int) ≤ 16 by omega)
   rw [hin2] at this; cases this)
  have Hin := Lib.hid hin
  have Hin2 := Lib.hid hin2
  clear hin hin2
  go_enter Tryz.func49, Tryz.ntmps49
  go_wp2_with (go_at_call 115; refine (l1In_any _ _ _ _).mono ?_; rintro e w' ⟨rfl, rfl⟩; first | rw [Hin.out] | rw [Hin2.out])
  go_ret
  exact ⟨ret_bool Hf.out.symm, belA (bel0 w) _⟩
 obtain ⟨hnx2, hnx9⟩ := inI_true.1 hin
 have hn16 := inI_true.1 hin2
 have Hin := Lib.hid hin
 have Hin2 := Lib.hid hin2
 have hn0 : 0 < n := by omega
 clear hin hin2
 obtain ⟨hkx0, b0, o0, A0', c0', rfl, hadb0, z0, z1, z2, z3, z4, hrow0⟩ := H.out.at_ hn0
 have hbw : b0 < w.heap.size := hadb0
 have y0 := keep1 B1 z0 (Nat.le_refl _)
 have y1 := keep1 B1 z1 (Nat.le_refl _)
 clear hrow0 z2 z3 z4 z0 z1
 simp only [Nat.zero_mul, Nat.add_zero] at y0 y1
 by_cases hh : xs[0].id = 1 ∧ xs[0].kd = 2
 rotate_left
 ·have Hf := Lib.hid (volOk_no (nx := nx) (xs := xs) fun hp => by
   obtain ⟨x, h1, h2, h3⟩ := hp.head
   have := head_is hkx0 h1
   rw [this] at hh; exact hh ⟨h2, h3⟩)
  by_cases hid : xs[0].id = 1
  ·have hkd : (xs[0].kd != 2) = true := by simpa using fun h => hh ⟨hid, h⟩
   rw [hid] at y0
   clear hh hid
   go_enter Tryz.func49, Tryz.ntmps49
   go_wp2_with fail
   rw [HW1.out]
   have v0 := V0.out
   have v1 := V1.out
   refine (l1In_any _ _ _ _).mono ?_
   rintro e w' ⟨rfl, rfl⟩
   rw [Hin.out]
   go_wp2_with fail
   refine (l1In_any _ _ _ _).mono ?_
   rintro e w' ⟨rfl, rfl⟩
   rw [Hin2.out]
   go_wp2_with fail
   go_ret
   exact ⟨ret_bool Hf.out.symm, B1⟩
  ·have hid2 : (xs[0].id != 1) = true := by simpa using hid
   clear hh hid
   go_enter Tryz.func49, Tryz.ntmps49
   go_wp2_with fail
   rw [HW1.out]
   have v0 := V0.out
   have v1 := V1.out
   refine (l1In_any _ _ _ _).mono ?_
   rintro e w' ⟨rfl, rfl⟩
   rw [Hin.out]
   go_wp2_with fail
   refine (l1In_any _ _ _ _).mono ?_
   rintro e w' ⟨rfl, rfl⟩
   rw [Hin2.out]
   go_wp2_with fail
   go_ret
   exact ⟨ret_bool Hf.out.symm, B1⟩
 ·obtain ⟨hid, hkd⟩ := hh
  have Hhead := Lib.hid (show ∃ x, xs[0]? = some x ∧ x.id = 1 ∧ x.kd = 2 from ⟨xs[0], List.getElem?_eq_getElem hkx0, hid, hkd⟩)
  rw [hid] at y0
  rw [hkd] at y1
  clear hid hkd
  go_enter Tryz.func49, Tryz.ntmps49
  go_wp2_with fail
  rw [HW1.out]
  have v0 := V0.out
  have v1 := V1.out
  refine (l1In_any _ _ _ _).mono ?_
  rintro e w' ⟨rfl, rfl⟩
  rw [Hin.out]
  go_wp2_with fail
  refine (l1In_any _ _ _ _).mono ?_
  rintro e w' ⟨rfl, rfl⟩
  rw [Hin2.out]
  go_wp2_with fail
  clear v0 v1 y0 y1
  go_loopw [3] (fun i wr => ∃ (k : Nat) (K : Int), k ≤ n ∧ i = .int .i64 K ∧ Hid (K = (k : Int)) ∧ Hid (∀ j, j < k → RowP nx xs j) ∧ Below W1.heap.size W1 wr)
   (fun i _ => n - (intOf i).toNat)
  case atStart => exact ⟨0, 0, by omega, rfl, rfl, fun j h => absurd h (by omega), bel0 W1⟩
  case round =>
   obtain ⟨k, K, hk, rfl, HK, hrows, hbel⟩ := hrel
   have v0 := keep1 hbel V0.out (Nat.le_refl _)
   have v1 := keep1 hbel V1.out (Nat.le_refl _)
   have kn : K.toNat = k := by have := HK.out; omega
   have k0 : 0 ≤ K := by have := HK.out; omega
   by_cases hlt : k < n
   ·have k1 : K < (n : Int) := by have := HK.out; omega
    obtain ⟨hkx, b, o, A', c', hA, hadb, z0, z1, z2, z3, z4, hrow⟩ := (H1.out.below hbel).at_ hlt
    obtain ⟨rfl, rfl⟩ : b0 = b ∧ o0 = o := by simpa using hA
    clear hA
    obtain ⟨x, hx⟩ : ∃ x, xs[k] = x := ⟨_, rfl⟩
    have HX := Lib.hid hx
    have hmem : xs[k] ∈ xs := List.getElem_mem hkx
    rw [hx] at z0 z1 z2 z3 z4 hrow hmem
    clear hx
    obtain ⟨xi, xk, xl, xt, es⟩ := x
    simp only at z0 z1 z2 z3 z4 hrow
    have Hinok := Lib.hid (Hino.out _ hmem A' c')
    simp only at Hinok
    have Hrow3 := Lib.hid (hrow.more hbel.size)
    have hwn : IntKind.i64.wrap (nx - 1) = nx - 1 := IntWalk.i64_in _ (by omega)
    clear hrow hmem
    go_wp2_with fail
    rcases hi : inI xi 1 (nx - 1) with _ | _
    ·have Hf := Lib.hid (volOk_no (nx := nx) (xs := xs) fun hp => by
      have h1 := hp.row k hkx
      rw [HX.out] at h1
      have := inI_true.2 ⟨h1.1, h1.2.1⟩
      rw [hi] at this; cases this)
     go_quiet ((first | (go_at_call 115; exact Calls.quiet_of_same (l1In_q _ _ _ _))))
     go_wp2
     go_ret
     exact ⟨ret_bool Hf.out.symm, below_drewN (belN B1 hbel) _⟩
    have hib := inI_true.1 hi
    have HI := Lib.hid hi
    by_cases hkz : k = 0
    ·obtain rfl : K = 0 := by have := HK.out; omega
     have Hrow9 := Lib.hid (show inoOkB xs ⟨xi, xk, xl, xt, es⟩ = true → RowP nx xs k from fun h hk => by
      rw [HX.out]; exact ⟨hib.1, hib.2, fun h0 => absurd h0 (by omega), h⟩)
     have hkz2 := Lib.hid hkz
     rw [hkz] at z0 z1 z2 z3 z4
     simp only [Nat.zero_mul, Nat.add_zero] at z0 z1 z2 z3 z4
     refine wp_region_held_drew (S := fun w' => w'.cell? ⟨w.heap.size, 0, none⟩ = some (.int .i64 nx) ∧ w'.cell? ⟨w.heap.size, 1, none⟩ = some (.slice (some ⟨b0, o0, none⟩) n c) ∧ w'.cell? ⟨b0, o0, none⟩ = some (.int .i64 xi) ∧ w'.cell? ⟨b0, o0 + 1, none⟩ = some (.int .i64 xk) ∧ w'.cell? ⟨b0, o0 + 2, none⟩ = some (.int .i64 xl) ∧ w'.cell? ⟨b0, o0 + 3, none⟩ = some (.string xt) ∧ w'.cell? ⟨b0, o0 + 4, none⟩ = some (.slice A' es.length c')) (by kernel_rfl) ⟨v0, v1, z0, z1, z2, z3, z4⟩ (fun hHeld => ?_)
     refine wpAnyH_take (i := 0) (oi := ?oi1) (v := ?v1) ?hi1 ?hs1 ?hf1 ?hr1 ?hQ1 ?hy1 ?hS1 ?hrest1
     case hi1 => (conv => lhs; simp only [List.getElem?_toArray, List.getElem?_cons_zero]); try exact rfl
     case hs1 => kernel_rfl
     case hf1 => kernel_rfl
     case hr1 => kernel_rfl
     case hQ1 => exact fun _ _ _ h => h
     case hS1 => assumption
     case hy1 => refine Or.inl ⟨by rfl, ?_⟩; intro w hSw; (try dsimp only at hSw); go_simp; (try with_reducible rfl)
     simp only [Act.put, List.setIfInBounds_toArray, List.set_cons_zero, List.set_cons_succ]
     refine wpAnyH_take (i := 1) (oi := ?oi2) (v := ?v2) ?hi2 ?hs2 ?hf2 ?hr2 ?hQ2 ?hy2 ?hS2 ?hrest2
     case hi2 => (conv => lhs; simp only [List.getElem?_toArray, List.getElem?_cons_zero, List.getElem?_cons_succ]); try exact rfl
     case hs2 => kernel_rfl
     case hf2 => kernel_rfl
     case hr2 => kernel_rfl
     case hQ2 => exact fun _ _ _ h => h
     case hS2 => assumption
     case hy2 => refine Or.inl ⟨by rfl, ?_⟩; intro w hSw; (try dsimp only at hSw); go_simp; (try with_reducible rfl)
     simp only [Act.put, List.setIfInBounds_toArray, List.set_cons_zero, List.set_cons_succ]
     refine wpAnyH_take (i := 2) (oi := ?oi3) (v := ?v3) ?hi3 ?hs3 ?hf3 ?hr3 ?hQ3 ?hy3 ?hS3 ?hrest3
     case hi3 => (conv => lhs; simp only [List.getElem?_toArray, List.getElem?_cons_zero, List.getElem?_cons_succ]); try exact rfl
     case hs3 => kernel_rfl
     case hf3 => kernel_rfl
     case hr3 => kernel_rfl
     case hQ3 => exact fun _ _ _ h => h
     case hS3 => assumption
     case hy3 => refine Or.inl ⟨by rfl, ?_⟩; intro w hSw; (try dsimp only at hSw); go_simp; (try with_reducible rfl)
     simp only [Act.put, List.setIfInBounds_toArray, List.set_cons_zero, List.set_cons_succ]
     refine wpAnyH_take (i := 3) (oi := ?oi4) (v := ?v4) ?hi4 ?hs4 ?hf4 ?hr4 ?hQ4 ?hy4 ?hS4 ?hrest4
     case hi4 => (conv => lhs; simp only [List.getElem?_toArray, List.getElem?_cons_zero, List.getElem?_cons_succ]); try exact rfl
     case hs4 => kernel_rfl
     case hf4 => kernel_rfl
     case hr4 => kernel_rfl
     case hQ4 => exact fun _ _ _ h => h
     case hS4 => assumption
     case hy4 => refine Or.inl ⟨by rfl, ?_⟩; intro w hSw; (try dsimp only at hSw); go_simp; (try with_reducible rfl)
     simp only [Act.put, List.setIfInBounds_toArray, List.set_cons_zero, List.set_cons_succ]
     refine wpAnyH_take (i := 4) (oi := ?oi5) (v := ?v5) ?hi5 ?hs5 ?hf5 ?hr5 ?hQ5 ?hy5 ?hS5 ?hrest5
     case hi5 => (conv => lhs; simp only [List.getElem?_toArray, List.getElem?_cons_zero, List.getElem?_cons_succ]); try exact rfl
     case hs5 => kernel_rfl
     case hf5 => kernel_rfl
     case hr5 => kernel_rfl
     case hQ5 => exact fun _ _ _ h => h
     case hS5 => assumption
     case hy5 => refine Or.inl ⟨by rfl, ?_⟩; intro w hSw; (try dsimp only at hSw); go_simp; (try with_reducible rfl)
     simp only [Act.put, List.setIfInBounds_toArray, List.set_cons_zero, List.set_cons_succ]
     refine wpAnyH_take (i := 5) (oi := ?oi6) (v := ?v6) ?hi6 ?hs6 ?hf6 ?hr6 ?hQ6 ?hy6 ?hS6 ?hrest6
     case hi6 => (conv => lhs; simp only [List.getElem?_toArray, List.getElem?_cons_zero, List.getElem?_cons_succ]); try exact rfl
     case hs6 => kernel_rfl
     case hf6 => kernel_rfl
     case hr6 => kernel_rfl
     case hQ6 => exact fun _ _ _ h => h
     case hS6 => assumption
     case hy6 => refine Or.inl ⟨by rfl, ?_⟩; intro w hSw; (try dsimp only at hSw); go_simp; (try with_reducible rfl)
     simp only [Act.put, List.setIfInBounds_toArray, List.set_cons_zero, List.set_cons_succ]
     refine wpAnyH_take (i := 6) (oi := ?oi7) (v := ?v7) ?hi7 ?hs7 ?hf7 ?hr7 ?hQ7 ?hy7 ?hS7 ?hrest7
     case hi7 => (conv => lhs; simp only [List.getElem?_toArray, List.getElem?_cons_zero, List.getElem?_cons_succ]); try exact rfl
     case hs7 => kernel_rfl
     case hf7 => kernel_rfl
     case hr7 => kernel_rfl
     case hQ7 => exact fun _ _ _ h => h
     case hS7 => assumption
     case hy7 => refine Or.inl ⟨by rfl, ?_⟩; intro w hSw; (try dsimp only at hSw); go_simp; (try with_reducible rfl)
     simp only [Act.put, List.setIfInBounds_toArray, List.set_cons_zero, List.set_cons_succ]
     refine wpAnyH_take (i := 7) (oi := ?oi8) (v := ?v8) ?hi8 ?hs8 ?hf8 ?hr8 ?hQ8 ?hy8 ?hS8 ?hrest8
     case hi8 => (conv => lhs; simp only [List.getElem?_toArray, List.getElem?_cons_zero, List.getElem?_cons_succ]); try exact rfl
     case hs8 => kernel_rfl
     case hf8 => kernel_rfl
     case hr8 => kernel_rfl
     case hQ8 => exact fun _ _ _ h => h
     case hS8 => assumption
     case hy8 => refine Or.inl ⟨by rfl, ?_⟩; intro w hSw; (try dsimp only at hSw); go_simp; (try with_reducible rfl)
     simp only [Act.put, List.setIfInBounds_toArray, List.set_cons_zero, List.set_cons_succ]
     refine wpAnyH_take (i := 8) (oi := ?oi9) (v := ?v9) ?hi9 ?hs9 ?hf9 ?hr9 ?hQ9 ?hy9 ?hS9 ?hrest9
     case hi9 => (conv => lhs; simp only [List.getElem?_toArray, List.getElem?_cons_zero, List.getElem?_cons_succ]); try exact rfl
     case hs9 => kernel_rfl
     case hf9 => kernel_rfl
     case hr9 => kernel_rfl
     case hQ9 => exact fun _ _ _ h => h
     case hS9 => assumption
     case hy9 => refine Or.inl ⟨by rfl, ?_⟩; intro w hSw; (try dsimp only at hSw); go_simp; (try with_reducible rfl)
     simp only [Act.put, List.setIfInBounds_toArray, List.set_cons_zero, List.set_cons_succ]
     refine wpAnyH_ready (rs := [9]) (by kernel_rfl) (by simp) ?_
     refine AllReadyH.cons (o := ?oi10) ?hi10 (fun K hK => ?_) AllReadyH.nil
     case hi10 => (conv => lhs; simp only [List.getElem?_toArray, List.getElem?_cons_zero, List.getElem?_cons_succ]); try exact rfl
     go_simp
     go_at_call 115
     refine (l1In_any _ _ _ _).mono ?_
     rintro e w' ⟨rfl, rfl⟩
     refine hK.out _ _ hHeld (fun hHeld10 => ?_)
     clear hK K
     refine wpAnyH_take (i := 10) (oi := ?oi11) (v := ?v11) ?hi11 ?hs11 ?hf11 ?hr11 ?hQ11 ?hy11 ?hS11 ?hrest11
     case hi11 => (conv => lhs; simp only [List.getElem?_toArray, List.getElem?_cons_zero, List.getElem?_cons_succ]); try exact rfl
     case hs11 => kernel_rfl
     case hf11 => kernel_rfl
     case hr11 => kernel_rfl
     case hQ11 => exact fun _ _ _ h => h
     case hS11 => assumption
     case hy11 => refine Or.inl ⟨by rfl, ?_⟩; intro w hSw; (try dsimp only at hSw); go_simp; (try with_reducible rfl)
     simp only [Act.put, List.setIfInBounds_toArray, List.set_cons_zero, List.set_cons_succ]
     refine wpAnyH_take (i := 11) (oi := ?oi12) (v := ?v12) ?hi12 ?hs12 ?hf12 ?hr12 ?hQ12 ?hy12 ?hS12 ?hrest12
     case hi12 => (conv => lhs; simp only [List.getElem?_toArray, List.getElem?_cons_zero, List.getElem?_cons_succ]); try exact rfl
     case hs12 => kernel_rfl
     case hf12 => kernel_rfl
     case hr12 => kernel_rfl
     case hQ12 => exact fun _ _ _ h => h
     case hS12 => assumption
     case hy12 => refine Or.inl ⟨by rfl, ?_⟩; intro w hSw; (try dsimp only at hSw); go_simp; (try with_reducible rfl)
     simp only [Act.put, List.setIfInBounds_toArray, List.set_cons_zero, List.set_cons_succ]
     refine wpAnyH_take (i := 12) (oi := ?oi13) (v := ?v13) ?hi13 ?hs13 ?hf13 ?hr13 ?hQ13 ?hy13 ?hS13 ?hrest13
     case hi13 => (conv => lhs; simp only [List.getElem?_toArray, List.getElem?_cons_zero, List.getElem?_cons_succ]); try exact rfl
     case hs13 => kernel_rfl
     case hf13 => kernel_rfl
     case hr13 => kernel_rfl
     case hQ13 => exact fun _ _ _ h => h
     case hS13 => assumption
     case hy13 => refine Or.inl ⟨by rfl, ?_⟩; intro w hSw; (try dsimp only at hSw); go_simp; (try with_reducible rfl)
     simp only [Act.put, List.setIfInBounds_toArray, List.set_cons_zero, List.set_cons_succ]
     refine wpAnyH_take (i := 13) (oi := ?oi14) (v := ?v14) ?hi14 ?hs14 ?hf14 ?hr14 ?hQ14 ?hy14 ?hS14 ?hrest14
     case hi14 => (conv => lhs; simp only [List.getElem?_toArray, List.getElem?_cons_zero, List.getElem?_cons_succ]); try exact rfl
     case hs14 => kernel_rfl
     case hf14 => kernel_rfl
     case hr14 => kernel_rfl
     case hQ14 => exact fun _ _ _ h => h
     case hS14 => assumption
     case hy14 => refine Or.inl ⟨by rfl, ?_⟩; intro w hSw; (try dsimp only at hSw); go_simp; (try with_reducible rfl)
     simp only [Act.put, List.setIfInBounds_toArray, List.set_cons_zero, List.set_cons_succ]
     refine wpAnyH_take (i := 14) (oi := ?oi15) (v := ?v15) ?hi15 ?hs15 ?hf15 ?hr15 ?hQ15 ?hy15 ?hS15 ?hrest15
     case hi15 => (conv => lhs; simp only [List.getElem?_toArray, List.getElem?_cons_zero, List.getElem?_cons_succ]); try exact rfl
     case hs15 => kernel_rfl
     case hf15 => kernel_rfl
     case hr15 => kernel_rfl
     case hQ15 => exact fun _ _ _ h => h
     case hS15 => assumption
     case hy15 => refine Or.inl ⟨by rfl, ?_⟩; intro w hSw; (try dsimp only at hSw); go_simp; (try with_reducible rfl)
     simp only [Act.put, List.setIfInBounds_toArray, List.set_cons_zero, List.set_cons_succ]
     refine wpAnyH_take (i := 15) (oi := ?oi16) (v := undef) ?hi16 ?hs16 ?hf16 ?hr16 ?hQ16 ?hy16 ?hS16 ?hrest16
     case hi16 => (conv => lhs; simp only [List.getElem?_toArray, List.getElem?_cons_zero, List.getElem?_cons_succ]); try exact rfl
     case hs16 => kernel_rfl
     case hf16 => kernel_rfl
     case hr16 => kernel_rfl
     case hQ16 => exact fun _ _ _ h => h
     case hS16 => assumption
     case hy16 => exact Or.inr ⟨by rfl, rfl⟩
     simp only [Act.put, List.setIfInBounds_toArray, List.set_cons_zero, List.set_cons_succ]
     refine wpAnyH_take (i := 16) (oi := ?oi17) (v := undef) ?hi17 ?hs17 ?hf17 ?hr17 ?hQ17 ?hy17 ?hS17 ?hrest17
     case hi17 => (conv => lhs; simp only [List.getElem?_toArray, List.getElem?_cons_zero, List.getElem?_cons_succ]); try exact rfl
     case hs17 => kernel_rfl
     case hf17 => kernel_rfl
     case hr17 => kernel_rfl
     case hQ17 => exact fun _ _ _ h => h
     case hS17 => assumption
     case hy17 => exact Or.inr ⟨by rfl, rfl⟩
     simp only [Act.put, List.setIfInBounds_toArray, List.set_cons_zero, List.set_cons_succ]
     refine wpAnyH_take (i := 17) (oi := ?oi18) (v := undef) ?hi18 ?hs18 ?hf18 ?hr18 ?hQ18 ?hy18 ?hS18 ?hrest18
     case hi18 => (conv => lhs; simp only [List.getElem?_toArray, List.getElem?_cons_zero, List.getElem?_cons_succ]); try exact rfl
     case hs18 => kernel_rfl
     case hf18 => kernel_rfl
     case hr18 => kernel_rfl
     case hQ18 => exact fun _ _ _ h => h
     case hS18 => assumption
     case hy18 => exact Or.inr ⟨by rfl, rfl⟩
     simp only [Act.put, List.setIfInBounds_toArray, List.set_cons_zero, List.set_cons_succ]
     refine wpAnyH_take (i := 18) (oi := ?oi19) (v := undef) ?hi19 ?hs19 ?hf19 ?hr19 ?hQ19 ?hy19 ?hS19 ?hrest19
     case hi19 => (conv => lhs; simp only [List.getElem?_toArray, List.getElem?_cons_zero, List.getElem?_cons_succ]); try exact rfl
     case hs19 => kernel_rfl
     case hf19 => kernel_rfl
     case hr19 => kernel_rfl
     case hQ19 => exact fun _ _ _ h => h
     case hS19 => assumption
     case hy19 => exact Or.inr ⟨by rfl, rfl⟩
     simp only [Act.put, List.setIfInBounds_toArray, List.set_cons_zero, List.set_cons_succ]
     refine wpAnyH_take (i := 19) (oi := ?oi20) (v := undef) ?hi20 ?hs20 ?hf20 ?hr20 ?hQ20 ?hy20 ?hS20 ?hrest20
     case hi20 => (conv => lhs; simp only [List.getElem?_toArray, List.getElem?_cons_zero, List.getElem?_cons_succ]); try exact rfl
     case hs20 => kernel_rfl
     case hf20 => kernel_rfl
     case hr20 => kernel_rfl
     case hQ20 => exact fun _ _ _ h => h
     case hS20 => assumption
     case hy20 => exact Or.inr ⟨by rfl, rfl⟩
     simp only [Act.put, List.setIfInBounds_toArray, List.set_cons_zero, List.set_cons_succ]
     refine wpAnyH_take (i := 20) (oi := ?oi21) (v := undef) ?hi21 ?hs21 ?hf21 ?hr21 ?hQ21 ?hy21 ?hS21 ?hrest21
     case hi21 => (conv => lhs; simp only [List.getElem?_toArray, List.getElem?_cons_zero, List.getElem?_cons_succ]); try exact rfl
     case hs21 => kernel_rfl
     case hf21 => kernel_rfl
     case hr21 => kernel_rfl
     case hQ21 => exact fun _ _ _ h => h
     case hS21 => assumption
     case hy21 => exact Or.inr ⟨by rfl, rfl⟩
     simp only [Act.put, List.setIfInBounds_toArray, List.set_cons_zero, List.set_cons_succ]
     refine wpAnyH_take (i := 21) (oi := ?oi22) (v := undef) ?hi22 ?hs22 ?hf22 ?hr22 ?hQ22 ?hy22 ?hS22 ?hrest22
     case hi22 => (conv => lhs; simp only [List.getElem?_toArray, List.getElem?_cons_zero, List.getElem?_cons_succ]); try exact rfl
     case hs22 => kernel_rfl
     case hf22 => kernel_rfl
     case hr22 => kernel_rfl
     case hQ22 => exact fun _ _ _ h => h
     case hS22 => assumption
     case hy22 => exact Or.inr ⟨by rfl, rfl⟩
     simp only [Act.put, List.setIfInBounds_toArray, List.set_cons_zero, List.set_cons_succ]
     refine wpAnyH_take (i := 22) (oi := ?oi23) (v := undef) ?hi23 ?hs23 ?hf23 ?hr23 ?hQ23 ?hy23 ?hS23 ?hrest23
     case hi23 => (conv => lhs; simp only [List.getElem?_toArray, List.getElem?_cons_zero, List.getElem?_cons_succ]); try exact rfl
     case hs23 => kernel_rfl
     case hf23 => kernel_rfl
     case hr23 => kernel_rfl
     case hQ23 => exact fun _ _ _ h => h
     case hS23 => assumption
     case hy23 => exact Or.inr ⟨by rfl, rfl⟩
     simp only [Act.put, List.setIfInBounds_toArray, List.set_cons_zero, List.set_cons_succ]
     refine wpAnyH_take (i := 23) (oi := ?oi24) (v := undef) ?hi24 ?hs24 ?hf24 ?hr24 ?hQ24 ?hy24 ?hS24 ?hrest24
     case hi24 => (conv => lhs; simp only [List.getElem?_toArray, List.getElem?_cons_zero, List.getElem?_cons_succ]); try exact rfl
     case hs24 => kernel_rfl
     case hf24 => kernel_rfl
     case hr24 => kernel_rfl
     case hQ24 => exact fun _ _ _ h => h
     case hS24 => assumption
     case hy24 => exact Or.inr ⟨by rfl, rfl⟩
     simp only [Act.put, List.setIfInBounds_toArray, List.set_cons_zero, List.set_cons_succ]
     refine wpAnyH_take (i := 24) (oi := ?oi25) (v := undef) ?hi25 ?hs25 ?hf25 ?hr25 ?hQ25 ?hy25 ?hS25 ?hrest25
     case hi25 => (conv => lhs; simp only [List.getElem?_toArray, List.getElem?_cons_zero, List.getElem?_cons_succ]); try exact rfl
     case hs25 => kernel_rfl
     case hf25 => kernel_rfl
     case hr25 => kernel_rfl
     case hQ25 => exact fun _ _ _ h => h
     case hS25 => assumption
     case hy25 => exact Or.inr ⟨by rfl, rfl⟩
     simp only [Act.put, List.setIfInBounds_toArray, List.set_cons_zero, List.set_cons_succ]
     refine wpAnyH_take (i := 25) (oi := ?oi26) (v := undef) ?hi26 ?hs26 ?hf26 ?hr26 ?hQ26 ?hy26 ?hS26 ?hrest26
     case hi26 => (conv => lhs; simp only [List.getElem?_toArray, List.getElem?_cons_zero, List.getElem?_cons_succ]); try exact rfl
     case hs26 => kernel_rfl
     case hf26 => kernel_rfl
     case hr26 => kernel_rfl
     case hQ26 => exact fun _ _ _ h => h
     case hS26 => assumption
     case hy26 => exact Or.inr ⟨by rfl, rfl⟩
     simp only [Act.put, List.setIfInBounds_toArray, List.set_cons_zero, List.set_cons_succ]
     refine wpAnyH_take (i := 26) (oi := ?oi27) (v := undef) ?hi27 ?hs27 ?hf27 ?hr27 ?hQ27 ?hy27 ?hS27 ?hrest27
     case hi27 => (conv => lhs; simp only [List.getElem?_toArray, List.getElem?_cons_zero, List.getElem?_cons_succ]); try exact rfl
     case hs27 => kernel_rfl
     case hf27 => kernel_rfl
     case hr27 => kernel_rfl
     case hQ27 => exact fun _ _ _ h => h
     case hS27 => assumption
     case hy27 => exact Or.inr ⟨by rfl, rfl⟩
     simp only [Act.put, List.setIfInBounds_toArray, List.set_cons_zero, List.set_cons_succ]
     refine wpAnyH_take (i := 27) (oi := ?oi28) (v := undef) ?hi28 ?hs28 ?hf28 ?hr28 ?hQ28 ?hy28 ?hS28 ?hrest28
     case hi28 => (conv => lhs; simp only [List.getElem?_toArray, List.getElem?_cons_zero, List.getElem?_cons_succ]); try exact rfl
     case hs28 => kernel_rfl
     case hf28 => kernel_rfl
     case hr28 => kernel_rfl
     case hQ28 => exact fun _ _ _ h => h
     case hS28 => assumption
     case hy28 => exact Or.inr ⟨by rfl, rfl⟩
     simp only [Act.put, List.setIfInBounds_toArray, List.set_cons_zero, List.set_cons_succ]
     refine wpAnyH_take (i := 28) (oi := ?oi29) (v := undef) ?hi29 ?hs29 ?hf29 ?hr29 ?hQ29 ?hy29 ?hS29 ?hrest29
     case hi29 => (conv => lhs; simp only [List.getElem?_toArray, List.getElem?_cons_zero, List.getElem?_cons_succ]); try exact rfl
     case hs29 => kernel_rfl
     case hf29 => kernel_rfl
     case hr29 => kernel_rfl
     case hQ29 => exact fun _ _ _ h => h
     case hS29 => assumption
     case hy29 => exact Or.inr ⟨by rfl, rfl⟩
     simp only [Act.put, List.setIfInBounds_toArray, List.set_cons_zero, List.set_cons_succ]
     refine wpAnyH_take (i := 29) (oi := ?oi30) (v := ?v30) ?hi30 ?hs30 ?hf30 ?hr30 ?hQ30 ?hy30 ?hS30 ?hrest30
     case hi30 => (conv => lhs; simp only [List.getElem?_toArray, List.getElem?_cons_zero, List.getElem?_cons_succ]); try exact rfl
     case hs30 => kernel_rfl
     case hf30 => kernel_rfl
     case hr30 => kernel_rfl
     case hQ30 => exact fun _ _ _ h => h
     case hS30 => assumption
     case hy30 => refine Or.inl ⟨by rfl, ?_⟩; intro w hSw; (try dsimp only at hSw); go_simp; (try with_reducible rfl)
     simp only [Act.put, List.setIfInBounds_toArray, List.set_cons_zero, List.set_cons_succ]
     refine wpAnyH_take (i := 30) (oi := ?oi31) (v := ?v31) ?hi31 ?hs31 ?hf31 ?hr31 ?hQ31 ?hy31 ?hS31 ?hrest31
     case hi31 => (conv => lhs; simp only [List.getElem?_toArray, List.getElem?_cons_zero, List.getElem?_cons_succ]); try exact rfl
     case hs31 => kernel_rfl
     case hf31 => kernel_rfl
     case hr31 => kernel_rfl
     case hQ31 => exact fun _ _ _ h => h
     case hS31 => assumption
     case hy31 => refine Or.inl ⟨by rfl, ?_⟩; intro w hSw; (try dsimp only at hSw); go_simp; (try with_reducible rfl)
     simp only [Act.put, List.setIfInBounds_toArray, List.set_cons_zero, List.set_cons_succ]
     refine wpAnyH_take (i := 31) (oi := ?oi32) (v := ?v32) ?hi32 ?hs32 ?hf32 ?hr32 ?hQ32 ?hy32 ?hS32 ?hrest32
     case hi32 => (conv => lhs; simp only [List.getElem?_toArray, List.getElem?_cons_zero, List.getElem?_cons_succ]); try exact rfl
     case hs32 => kernel_rfl
     case hf32 => kernel_rfl
     case hr32 => kernel_rfl
     case hQ32 => exact fun _ _ _ h => h
     case hS32 => assumption
     case hy32 => refine Or.inl ⟨by rfl, ?_⟩; intro w hSw; (try dsimp only at hSw); go_simp; (try with_reducible rfl)
     simp only [Act.put, List.setIfInBounds_toArray, List.set_cons_zero, List.set_cons_succ]
     refine wpAnyH_take (i := 32) (oi := ?oi33) (v := ?v33) ?hi33 ?hs33 ?hf33 ?hr33 ?hQ33 ?hy33 ?hS33 ?hrest33
     case hi33 => (conv => lhs; simp only [List.getElem?_toArray, List.getElem?_cons_zero, List.getElem?_cons_succ]); try exact rfl
     case hs33 => kernel_rfl
     case hf33 => kernel_rfl
     case hr33 => kernel_rfl
     case hQ33 => exact fun _ _ _ h => h
     case hS33 => assumption
     case hy33 => refine Or.inl ⟨by rfl, ?_⟩; intro w hSw; (try dsimp only at hSw); go_simp; (try with_reducible rfl)
     simp only [Act.put, List.setIfInBounds_toArray, List.set_cons_zero, List.set_cons_succ]
     refine wpAnyH_take (i := 33) (oi := ?oi34) (v := ?v34) ?hi34 ?hs34 ?hf34 ?hr34 ?hQ34 ?hy34 ?hS34 ?hrest34
     case hi34 => (conv => lhs; simp only [List.getElem?_toArray, List.getElem?_cons_zero, List.getElem?_cons_succ]); try exact rfl
     case hs34 => kernel_rfl
     case hf34 => kernel_rfl
     case hr34 => kernel_rfl
     case hQ34 => exact fun _ _ _ h => h
     case hS34 => assumption
     case hy34 => refine Or.inl ⟨by rfl, ?_⟩; intro w hSw; (try dsimp only at hSw); go_simp; (try with_reducible rfl)
     simp only [Act.put, List.setIfInBounds_toArray, List.set_cons_zero, List.set_cons_succ]
     refine wpAnyH_take (i := 34) (oi := ?oi35) (v := ?v35) ?hi35 ?hs35 ?hf35 ?hr35 ?hQ35 ?hy35 ?hS35 ?hrest35
     case hi35 => (conv => lhs; simp only [List.getElem?_toArray, List.getElem?_cons_zero, List.getElem?_cons_succ]); try exact rfl
     case hs35 => kernel_rfl
     case hf35 => kernel_rfl
     case hr35 => kernel_rfl
     case hQ35 => exact fun _ _ _ h => h
     case hS35 => assumption
     case hy35 => refine Or.inl ⟨by rfl, ?_⟩; intro w hSw; (try dsimp only at hSw); go_simp; (try with_reducible rfl)
     simp only [Act.put, List.setIfInBounds_toArray, List.set_cons_zero, List.set_cons_succ]
     refine wpAnyH_take (i := 35) (oi := ?oi36) (v := ?v36) ?hi36 ?hs36 ?hf36 ?hr36 ?hQ36 ?hy36 ?hS36 ?hrest36
     case hi36 => (conv => lhs; simp only [List.getElem?_toArray, List.getElem?_cons_zero, List.getElem?_cons_succ]); try exact rfl
     case hs36 => kernel_rfl
     case hf36 => kernel_rfl
     case hr36 => kernel_rfl
     case hQ36 => exact fun _ _ _ h => h
     case hS36 => assumption
     case hy36 => refine Or.inl ⟨by rfl, ?_⟩; intro w hSw; (try dsimp only at hSw); go_simp; (try with_reducible rfl)
     simp only [Act.put, List.setIfInBounds_toArray, List.set_cons_zero, List.set_cons_succ]
     refine wpAnyH_take (i := 36) (oi := ?oi37) (v := ?v37) ?hi37 ?hs37 ?hf37 ?hr37 ?hQ37 ?hy37 ?hS37 ?hrest37
     case hi37 => (conv => lhs; simp only [List.getElem?_toArray, List.getElem?_cons_zero, List.getElem?_cons_succ]); try exact rfl
     case hs37 => kernel_rfl
     case hf37 => kernel_rfl
     case hr37 => kernel_rfl
     case hQ37 => exact fun _ _ _ h => h
     case hS37 => assumption
     case hy37 => refine Or.inl ⟨by rfl, ?_⟩; intro w hSw; (try dsimp only at hSw); go_simp; (try with_reducible rfl)
     simp only [Act.put, List.setIfInBounds_toArray, List.set_cons_zero, List.set_cons_succ]
     refine wpAnyH_take (i := 37) (oi := ?oi38) (v := ?v38) ?hi38 ?hs38 ?hf38 ?hr38 ?hQ38 ?hy38 ?hS38 ?hrest38
     case hi38 => (conv => lhs; simp only [List.getElem?_toArray, List.getElem?_cons_zero, List.getElem?_cons_succ]); try exact rfl
     case hs38 => kernel_rfl
     case hf38 => kernel_rfl
     case hr38 => kernel_rfl
     case hQ38 => exact fun _ _ _ h => h
     case hS38 => assumption
     case hy38 => refine Or.inl ⟨by rfl, ?_⟩; intro w hSw; (try dsimp only at hSw); go_simp; (try with_reducible rfl)
     simp only [Act.put, List.setIfInBounds_toArray, List.set_cons_zero, List.set_cons_succ]
     refine wpAnyH_ready (rs := [38]) (by kernel_rfl) (by simp) ?_
     refine AllReadyH.cons (o := ?oi39) ?hi39 (fun K hK => ?_) AllReadyH.nil
     case hi39 => (conv => lhs; simp only [List.getElem?_toArray, List.getElem?_cons_zero, List.getElem?_cons_succ]); try exact rfl
     go_simp
     go_at_call 116
     refine (Hinok.out wr.drew (hv.out.next (belN B1 hbel).drew) Hrow3.out.drew).mono ?_
     rintro e w7 ⟨rfl, hb7⟩
     refine hK.out _ _ (by obtain ⟨a0, a1, a2, a3, a4, a5, a6⟩ := hHeld10; exact ⟨keep1 hb7 a0 (Nat.le_refl _), keep1 hb7 a1 (Nat.le_refl _), keep1 hb7 a2 (Nat.le_refl _), keep1 hb7 a3 (Nat.le_refl _), keep1 hb7 a4 (Nat.le_refl _), keep1 hb7 a5 (Nat.le_refl _), keep1 hb7 a6 (Nat.le_refl _)⟩) (fun hHeld39 => ?_)
     clear hK K
     clear hHeld10
     refine wpAnyH_take (i := 39) (oi := ?oi40) (v := ?v40) ?hi40 ?hs40 ?hf40 ?hr40 ?hQ40 ?hy40 ?hS40 ?hrest40
     case hi40 => (conv => lhs; simp only [List.getElem?_toArray, List.getElem?_cons_zero, List.getElem?_cons_succ]); try exact rfl
     case hs40 => kernel_rfl
     case hf40 => kernel_rfl
     case hr40 => kernel_rfl
     case hQ40 => exact fun _ _ _ h => h
     case hS40 => assumption
     case hy40 => refine Or.inl ⟨by rfl, ?_⟩; intro w hSw; (try dsimp only at hSw); go_simp; (try with_reducible rfl)
     simp only [Act.put, List.setIfInBounds_toArray, List.set_cons_zero, List.set_cons_succ]
     refine wpAnyH_take (i := 40) (oi := ?oi41) (v := ?v41) ?hi41 ?hs41 ?hf41 ?hr41 ?hQ41 ?hy41 ?hS41 ?hrest41
     case hi41 => (conv => lhs; simp only [List.getElem?_toArray, List.getElem?_cons_zero, List.getElem?_cons_succ]); try exact rfl
     case hs41 => kernel_rfl
     case hf41 => kernel_rfl
     case hr41 => kernel_rfl
     case hQ41 => exact fun _ _ _ h => h
     case hS41 => assumption
     case hy41 => refine Or.inl ⟨by rfl, ?_⟩; intro w hSw; (try dsimp only at hSw); go_simp; (try with_reducible rfl)
     simp only [Act.put, List.setIfInBounds_toArray, List.set_cons_zero, List.set_cons_succ]
     refine wpAnyH_done (by kernel_rfl) ?_ _
     have b7 := hbel.drew.trans (hb7.mono hbel.size)
     rcases hok : inoOkB xs ⟨xi, xk, xl, xt, es⟩ with _ | _
     ·have Hf := Lib.hid (volOk_no (nx := nx) (xs := xs) fun hp => by
       have := (hp.row k hkx).2.2.2
       rw [HX.out, hok] at this; cases this)
      go_wp2
      go_ret
      exact ⟨ret_bool Hf.out.symm, belN B1 b7⟩
     ·have Hnx := Lib.hid (show ∀ j, j < k + 1 → RowP nx xs j from fun j' hj => by
       by_cases he : j' = k
       ·subst he; exact Hrow9.out hok
       ·exact hrows.out j' (by omega))
      go_wp2
      go_roundw
      case rel => exact ⟨k + 1, 1, by omega, by go_num, by have := HK.out; show _ = _; omega, Hnx, b7⟩
      case measure => simp [intOf]; omega
    ·obtain ⟨j, hj⟩ : ∃ j, k = j + 1 := ⟨k - 1, by omega⟩
     have hK0 : 0 < K := by have := HK.out; omega
     have hK1 : IntKind.i64.wrap (K - 1) = (j : Int) := by rw [IntWalk.i64_in _ (by omega)]; have := HK.out; omega
     have j0 : (0 : Int) ≤ (j : Int) := by omega
     have j1 : (j : Int) < (n : Int) := by omega
     have hjn : j < n := by omega
     have hk1x : k - 1 < xs.length := by omega
     obtain ⟨hjx, b', o', _, _, hA', _, y0, _⟩ := (H1.out.below hbel).at_ hjn
     obtain ⟨rfl, rfl⟩ : b0 = b' ∧ o0 = o' := by simpa using hA'
     clear hA'
     obtain ⟨y, hy⟩ : ∃ y, xs[j].id = y := ⟨_, rfl⟩
     have HY := Lib.hid hy
     rw [hy] at y0
     clear hy
     have hprev : xs[k - 1]'hk1x = xs[j] := by congr 1; omega
     have Hprev := Lib.hid hprev
     clear hprev hj
     by_cases hge : xi ≤ y
     ·have Hf := Lib.hid (volOk_no (nx := nx) (xs := xs) fun hp => by
       have h1 := (hp.row k hkx).2.2.1 (by omega)
       rw [Hprev.out, HY.out, HX.out] at h1
       simp only at h1
       omega)
      go_quiet ((first | (go_at_call 115; exact Calls.quiet_of_same (l1In_q _ _ _ _))))
      go_wp2
      go_ret
      exact ⟨ret_bool Hf.out.symm, below_drewN (belN B1 hbel) _⟩
     ·have hge2 : decide (xi ≤ y) = false := by simp; omega
      have Hrow9 := Lib.hid (show inoOkB xs ⟨xi, xk, xl, xt, es⟩ = true → RowP nx xs k from fun h hk => by
       rw [HX.out]; exact ⟨hib.1, hib.2, fun h0 => by rw [Hprev.out, HY.out]; simp only; omega, h⟩)
      clear hi
      go_region_held3 (fun w' => w'.cell? ⟨w.heap.size, 0, none⟩ = some (.int .i64 nx) ∧ w'.cell? ⟨w.heap.size, 1, none⟩ = some (.slice (some ⟨b0, o0, none⟩) n c) ∧ w'.cell? ⟨b0, o0 + k * 5, none⟩ = some (.int .i64 xi) ∧ w'.cell? ⟨b0, o0 + k * 5 + 1, none⟩ = some (.int .i64 xk) ∧ w'.cell? ⟨b0, o0 + k * 5 + 2, none⟩ = some (.int .i64 xl) ∧ w'.cell? ⟨b0, o0 + k * 5 + 3, none⟩ = some (.string xt) ∧ w'.cell? ⟨b0, o0 + k * 5 + 4, none⟩ = some (.slice A' es.length c') ∧ w'.cell? ⟨b0, o0 + j * 5, none⟩ = some (.int .i64 y))
       (first | go_keep | (refine ⟨keep1 hb7 ?_, keep1 hb7 ?_, keep1 hb7 ?_, keep1 hb7 ?_, keep1 hb7 ?_, keep1 hb7 ?_, keep1 hb7 ?_, keep1 hb7 ?_⟩ <;> go_keep))
       (first
        | (go_at_call 115; refine (l1In_any _ _ _ _).mono ?_; rintro e w' ⟨rfl, rfl⟩; rw [HI.out])
        | (go_at_call 116; refine (Hinok.out wr.drew (hv.out.next (belN B1 hbel).drew) Hrow3.out.drew).mono ?_; rintro e w7 ⟨rfl, hb7⟩))
      have b7 := hbel.drew.trans (hb7.mono hbel.size)
      rcases hok : inoOkB xs ⟨xi, xk, xl, xt, es⟩ with _ | _
      ·have Hf := Lib.hid (volOk_no (nx := nx) (xs := xs) fun hp => by
        have := (hp.row k hkx).2.2.2
        rw [HX.out, hok] at this; cases this)
       go_wp2
       go_ret
       exact ⟨ret_bool Hf.out.symm, belN B1 b7⟩
      ·have Hnx := Lib.hid (show ∀ j, j < k + 1 → RowP nx xs j from fun j' hj => by
        by_cases he : j' = k
        ·subst he; exact Hrow9.out hok
        ·exact hrows.out j' (by omega))
       go_wp2
       go_roundw
       case rel => exact ⟨k + 1, K + 1, by omega, by go_num, by have := HK.out; show _ = _; omega, Hnx, b7⟩
       case measure => simp [intOf]; omega
   ·obtain rfl : k = n := by omega
    have hKn : ¬ (K < (k : Int)) := by have := HK.out; omega
    have Hrp := Lib.hid (show ∀ j, RowP nx xs j from fun j hj => hrows.out j (by have := HL.out; omega) hj)
    go_wp2_with fail
    refine (Hbel.out wr (hv.out.next (belN B1 hbel))).mono ?_
    rintro e w5 ⟨g, rfl, hown, hb5⟩
    have Own5 := Lib.hid hown
    have b5 := hbel.trans (hb5.mono hbel.size)
    have Hbl := Lib.hid (fun (j : Nat) (hj : j < xs.length) => below_own (xs := xs) (fun i hi h0 => (Hrp.out i hi).2.2.1 h0) 1 hj)
    have Hblen := Lib.hid (belowB_len xs 1)
    obtain ⟨B, hB⟩ : ∃ B, belowB xs 1 = B := ⟨_, rfl⟩
    rw [hB] at Own5 Hbl Hblen
    clear v0 v1 hown hB
    go_wp2
    go_loopw [5] (fun i wr => ∃ (j : Nat), 1 ≤ j ∧ j ≤ k ∧ i = .int .i64 j ∧ Hid (∀ (i : Nat), 1 ≤ i → i < j → B[i]? = some true) ∧ Below w5.heap.size w5 wr)
     (fun i _ => k - (intOf i).toNat)
    case atStart => exact ⟨1, by omega, by omega, rfl, fun i h1 h2 => absurd h1 (by omega), bel0 w5⟩
    case round =>
     obtain ⟨j, h1j, hjk, rfl, hall, hbel5⟩ := hrel
     by_cases hlj : j < k
     ·have j0 : (0 : Int) ≤ (j : Int) := by omega
      have j1 : (j : Int) < (k : Int) := by omega
      have hjx : j < xs.length := by have := HL.out; omega
      rcases bool_at (l := B) (k := j) (by have := Hblen.out; omega) with hb | hb
      ·have cb := keep1 hbel5 (own_bool Own5.out hb) (Nat.le_refl _)
       have Hnx := Lib.hid (show ∀ (i : Nat), 1 ≤ i → i < j + 1 → B[i]? = some true from fun i h1 h2 => by
        by_cases he : i = j
        ·subst he; exact hb
        ·exact hall.out i h1 (by omega))
       clear hb
       go_wp2
       go_roundw
       case rel => exact ⟨j + 1, by omega, by omega, by go_num, Hnx, hbel5⟩
       case measure => simp [intOf]; omega
      ·have cb := keep1 hbel5 (own_bool Own5.out hb) (Nat.le_refl _)
       have Hf := Lib.hid (volOk_no (nx := nx) (xs := xs) fun hp => by
        have := (Hbl.out j hjx).2 (hp.reach j hjx h1j)
        rw [hb] at this; cases this)
       clear hb
       go_wp2
       go_ret
       exact ⟨ret_bool Hf.out.symm, belN (belN B1 b5) hbel5⟩
     ·obtain rfl : j = k := by omega
      have Hf := Lib.hid (show volOkB nx xs = true from volOkB_iff.2 ⟨⟨hnx2, hnx9⟩, by have := HL.out; omega, Hhead.out, fun i hi => Hrp.out i hi, fun i hi h1 => (Hbl.out i hi).1 (hall.out i h1 (by have := HL.out; omega))⟩)
      go_wp2
      go_ret
      exact ⟨ret_bool Hf.out.symm, belN (belN B1 b5) hbel5⟩

end Go.Proofs.YthdbomkddpnhaaaGreatDoor

