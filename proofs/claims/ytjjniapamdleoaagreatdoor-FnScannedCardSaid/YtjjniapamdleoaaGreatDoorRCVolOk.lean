/- Whether a volume is right, in both packages. -/
import Derived.Test.YtjjniapamdleoaaGreatDoorRCInoOk
import Derived.Test.YtjjniapamdleoaaGreatDoorRCVolB
namespace Go.Proofs.YtjjniapamdleoaaGreatDoor
open Go Go.RowKit
set_option maxHeartbeats 2000000
set_option maxRecDepth 100000

theorem volOk_no {nx : Int} {xs : List InoD} (h : ¬ VolP nx xs) : volOkB nx xs = false := by
 cases hb : volOkB nx xs with
 | false => rfl
 | true => exact absurd (volOkB_iff.1 hb) h
/-- What is asked of the inode at a place. -/
def RowP (nx : Int) (xs : List InoD) (k : Nat) : Prop := ∀ (hk : k < xs.length), 1 <= xs[k].id /\ xs[k].id <= nx - 1 /\ (∀ (_ : 0 < k), xs[k-1].id < xs[k].id) /\ inoOkB xs xs[k] = true
theorem VolP.row {nx : Int} {xs : List InoD} (h : VolP nx xs) (k : Nat) : RowP nx xs k := h.rows k
theorem head_is {xs : List InoD} (h : 0 < xs.length) {x : InoD} (hx : xs[0]? = some x) : xs[0] = x := by
 rw [List.getElem?_eq_getElem h] at hx; injection hx

theorem indexFunc_vol (p : InoD -> Bool) (cap : Value) (A : Option Addr) (n c : Nat) (xs : List InoD) (hn : n <= 9223372036854775807) (w : World) (hr : VAt w w.heap.size A n xs)
  (hcl : ∀ W, Below w.heap.size w W -> ∀ x ∈ xs, ∀ A' c', Calls Tryz.prog 98 #[.agg #[.int .i64 x.id, .int .i64 x.kd, .int .i64 x.ln, .string x.s, .slice A' x.es.length c'], cap] W fun r w' => r = .returned (.bool (p x)) /\ Below W.heap.size W w') :
  Calls Tryz.prog 88 #[.slice A n c, .func (.func 98) #[] #[cap]] w fun e w' => ∃ r : Int, e = .returned (.int .i64 r) /\ decide (0 <= r) = xs.any p /\ Below w.heap.size w w' := by
 have hl := hr.len
 have Hr := Lib.hid hr
 have HL := Lib.hid hl
 have Hcl := Lib.hid hcl
 clear hr hl hcl
 go_enter Tryz.func88, Tryz.ntmps88
 go_wp2
 go_loopw [8] (fun i wr => ∃ (k : Nat), k <= n /\ i = .int .i64 k /\ Hid ((xs.take k).any p = false) /\ Below w.heap.size w wr)
  (fun i _ => n - (intOf i).toNat)
 case atStart => exact ⟨0, by omega, rfl, by simp [Hid], bel0 w⟩
 case round =>
  obtain ⟨k, hk, rfl, hnone, hbel⟩ := hrel
  by_cases hlt : k < n
  ·obtain ⟨hkx, b, o, A', c', rfl, hadb, z0, z1, z2, z3, z4, hrow⟩ := (Hr.out.below hbel).at_ hlt
   have q0 : (0 : Int) <= ↑k := by omega
   have q1 : (↑k : Int) < ↑n := by omega
   have hts := Lib.hid (List.take_succ_eq_append_getElem hkx)
   have hck := Lib.hid (Hcl.out wr hbel xs[k] (List.getElem_mem hkx) A' c')
   clear hrow
   rcases hp : p xs[k] with _ | _
   ·have Hm := Lib.hid (show (xs.take (k + 1)).any p = false by rw [hts.out, List.any_append, hnone.out]; simp [hp])
    have Hp := Lib.hid hp
    clear hp
    go_wp2_with fail
    refine hck.out.mono ?_
    rintro r w2 ⟨rfl, hb2⟩
    rw [Hp.out]
    go_wp2
    go_roundw
    case rel => exact ⟨k + 1, by omega, by go_num, Hm, belN hbel hb2⟩
    case measure => simp [intOf]; omega
   ·have Hf := Lib.hid (show xs.any p = true from List.any_eq_true.2 ⟨_, List.getElem_mem hkx, hp⟩)
    have Hp := Lib.hid hp
    clear hp
    go_wp2_with fail
    refine hck.out.mono ?_
    rintro r w2 ⟨rfl, hb2⟩
    rw [Hp.out]
    go_wp2
    go_ret
    exact ⟨_, rfl, by rw [Hf.out]; simp, belN hbel hb2⟩
  ·have Hf := Lib.hid (show xs.any p = false by have := hnone.out; rwa [List.take_of_length_le (by have := HL.out; omega)] at this)
   go_wp2
   go_ret
   exact ⟨_, rfl, by rw [Hf.out]; rfl, hbel⟩

theorem containsFunc_vol (p : InoD -> Bool) (cap : Value) (A : Option Addr) (n c : Nat) (xs : List InoD) (hn : n <= 9223372036854775807) (w : World) (hr : VAt w w.heap.size A n xs)
  (hcl : ∀ W, Below w.heap.size w W -> ∀ x ∈ xs, ∀ A' c', Calls Tryz.prog 98 #[.agg #[.int .i64 x.id, .int .i64 x.kd, .int .i64 x.ln, .string x.s, .slice A' x.es.length c'], cap] W fun r w' => r = .returned (.bool (p x)) /\ Below W.heap.size W w') :
  Calls Tryz.prog 97 #[.slice A n c, .func (.func 98) #[] #[cap]] w fun e w' => e = .returned (.bool (xs.any p)) /\ Below w.heap.size w w' := by
 have H := Lib.hid (indexFunc_vol p cap A n c xs hn w hr hcl)
 clear hr hcl
 go_enter Tryz.func97, Tryz.ntmps97
 go_wp2_with fail
 refine H.out.mono ?_
 rintro e w1 ⟨r, rfl, hi, hb1⟩
 have Hi := Lib.hid hi
 clear hi
 go_wp2
 go_ret
 exact ⟨ret_bool (by first | exact Hi.out | simpa using Hi.out), hb1⟩

theorem volOk_clo (Ao : Option Addr) (co : Nat) (out : List Int) (hn : out.length <= 10000000) (B : Nat) (x : InoD) (A' : Option Addr) (c' : Nat) (w : World) (hB : w.cell? ⟨B, 0, none⟩ = some (.slice Ao out.length co)) (hr : Reads w w.heap.size 1 Ao out.length (II out)) :
  Calls Tryz.prog 98 #[.agg #[.int .i64 x.id, .int .i64 x.kd, .int .i64 x.ln, .string x.s, .slice A' x.es.length c'], .pointer (some ⟨B, 0, none⟩)] w fun r w' => r = .returned (.bool (!decide (x.id ∈ out))) /\ Below w.heap.size w w' := by
 obtain ⟨xi, xk, xl, xt, es⟩ := x
 have Hr := Lib.hid hr
 have hlt := World.block_lt_of_cell? _ _ hB
 simp only at hlt
 clear hr
 go_enter Tryz.func98, Tryz.ntmps98
 go_wp2_with fail
 refine (containsI_any Ao out.length co out xi hn _ ((Hr.out.below (belA (bel0 w) _)).more (by simp))).mono ?_
 rintro e w1 ⟨rfl, hb1⟩
 go_wp2
 go_ret
 exact ⟨rfl, belN (belA (bel0 w) _) hb1⟩

theorem volOk_fin {nx : Int} {xs : List InoD} {out : List Int} (hnx : 2 <= nx /\ nx <= 100000) (hn : 1 <= xs.length /\ xs.length <= 16) (hh : ∃ x, xs[0]? = some x /\ x.id = 1 /\ x.kd = 2) (hr : ∀ j, RowP nx xs j) (hiff : ∀ y, y ∈ out ↔ Rch xs 1 y) :
  (!(xs.drop 1).any fun x => !decide (x.id ∈ out)) = volOkB nx xs := by
 rw [List.not_any_eq_all_not]
 cases hv2 : volOkB nx xs with
 | true =>
  have hp := volOkB_iff.1 hv2
  rw [List.all_eq_true]
  intro x hx
  obtain ⟨j, hj, rfl⟩ := List.getElem_of_mem hx
  rw [List.length_drop] at hj
  have h9 := (hiff _).2 (hp.reach (1 + j) (by omega) (by omega))
  simp only [List.getElem_drop, Bool.not_not, decide_eq_true_eq]
  exact h9
 | false =>
  cases hal : (xs.drop 1).all (fun x => !!decide (x.id ∈ out)) with
  | false => rfl
  | true =>
   exfalso
   rw [List.all_eq_true] at hal
   have : volOkB nx xs = true := volOkB_iff.2 ⟨hnx, hn, hh, fun j hj => hr j hj, fun j hj h1 => by
    have h2 := hal (xs[j]) (by
     rw [List.mem_iff_getElem]
     exact ⟨j - 1, by rw [List.length_drop]; omega, by rw [List.getElem_drop]; congr 1; omega⟩)
    exact (hiff _).1 (by simpa using h2)⟩
   rw [hv2] at this; cases this
theorem IC_drop : ∀ (xs : List InoD) (vs : List Value), (IC xs vs).drop 5 = IC (xs.drop 1) (vs.drop 1)
 | [], _ => by simp [IC]
 | x :: xs, [] => by
  cases xs <;> simp [IC]
 | x :: xs, v :: vs => rfl
/-- All inodes but the first. -/
theorem VAt.tail {w : World} {B : Nat} {A : Option Addr} {n c : Nat} {xs : List InoD} (h : VAt w B A n xs) (hn : 1 <= n) (hc : n <= c) : VAt w B (if c = 1 then A else A.map (·.add 5)) (n - 1) (xs.drop 1) := by
 obtain ⟨vs, h1, h2, h2', h3⟩ := h
 have h4 := h1.cut hn hc
 rw [Nat.one_mul, IC_drop] at h4
 refine ⟨vs.drop 1, h4, by simp [h2], by simp [h2'], fun i hi => ?_⟩
 rw [List.length_drop] at hi
 obtain ⟨A', c', h5, h6⟩ := h3 (i + 1) (by omega)
 refine ⟨A', c', ?_, ?_⟩
 ·rw [List.getElem?_drop, Nat.add_comm 1 i, h5]; simp
 ·simp only [List.getElem_drop, Nat.add_comm 1 i]; exact h6

theorem volOk_impl (v : Value) (V : VolD) (sm : szV V <= 1048576) (w : World) (hT : Tab w) (hC : IsVolC w v V) :
  Calls Tryz.prog 58 #[v] w fun e w' => e = .returned (.bool (volOkB V.nx V.xs)) /\ Below w.heap.size w w' := by
 have Hino := Lib.hid (fun x hx A' c' W hT hW hr => inodeOk_impl v V sm x hx A' c' W hT hW hr)
 have Hbel := Lib.hid (fun W hW => below_impl v V (v_len sm) (v_all sm) 1 W hW)
 have hv := Lib.hid hC.is
 have hn := v_len sm
 have HT := Lib.hid hT
 obtain ⟨A, c, rfl, h, hcap⟩ := hC
 obtain ⟨nx, xs⟩ := V
 simp only at h hn Hino Hbel hcap ⊢
 have H := Lib.hid h
 clear h hT sm
 obtain ⟨n, hn'⟩ : ∃ n, xs.length = n := ⟨_, rfl⟩
 have HL := Lib.hid hn'
 simp only [hn'] at H hn Hino Hbel hv hcap ⊢
 clear hn'
 obtain ⟨W1, hW1⟩ : ∃ W1, w.alloc (.cells #[.int .i64 nx, .slice A n c] 26) = W1 := ⟨_, rfl⟩
 have B1 : Below w.heap.size w W1 := by rw [<- hW1]; exact belA (bel0 w) _
 have S1 : W1.heap.size = w.heap.size + 1 := by rw [<- hW1]; simp
 have hV : Blk W1 w.heap.size 26 #[.int .i64 nx, .slice A n c] := by rw [<- hW1]; exact Blk.new' _ _ _ _ rfl
 have HW1 := Lib.hid hW1
 have V0 := Lib.hid (hV.get 0 rfl)
 have V1 := Lib.hid (hV.get 1 rfl)
 have H1 := Lib.hid ((H.out.below B1).more B1.size)
 clear hW1 hV
 rcases hin : inI nx 2 100000 with _ | _
 ·have Hf := Lib.hid (volOk_no (nx := nx) (xs := xs) fun hp => by have := inI_true.2 hp.next; rw [hin] at this; cases this)
  have Hin := Lib.hid hin
  clear hin
  go_enter Tryz.func58, Tryz.ntmps58
  go_wp2_with (go_at_call 67; refine (within_any _ _ _ _).mono ?_; rintro e w' ⟨rfl, rfl⟩; rw [Hin.out])
  go_ret
  exact ⟨ret_bool Hf.out.symm, belA (bel0 w) _⟩
 rcases hin2 : inI (n : Int) 1 16 with _ | _
 ·have Hf := Lib.hid (volOk_no (nx := nx) (xs := xs) fun hp => by
   have h1 := hp.n
   rw [HL.out] at h1
   have := inI_true.2 (show (1 : Int) <= (n : Int) /\ (n : Int) <= 16 by omega)
   rw [hin2] at this; cases this)
  have Hin := Lib.hid hin
  have Hin2 := Lib.hid hin2
  clear hin hin2
  go_enter Tryz.func58, Tryz.ntmps58
  go_wp2_with (go_at_call 67; refine (within_any _ _ _ _).mono ?_; rintro e w' ⟨rfl, rfl⟩; first | rw [Hin.out] | rw [Hin2.out])
  go_ret
  exact ⟨ret_bool Hf.out.symm, belA (bel0 w) _⟩
 obtain ⟨hnx2, hnx9⟩ := inI_true.1 hin
 have hn16 := inI_true.1 hin2
 have Hin := Lib.hid hin
 have Hin2 := Lib.hid hin2
 have hn0 : 0 < n := by omega
 clear hin hin2
 obtain ⟨hkx0, b0, o0, A0', c0', rfl, hadb0, z0, z1, z2, z3, z4, hrow0⟩ := H.out.at_ hn0
 have hbw : b0 < w.heap.size := hadb0
 have y0 := kp_ B1 z0
 have y1 := kp_ B1 z1
 clear hrow0 z2 z3 z4 z0 z1
 simp only [Nat.zero_mul, Nat.add_zero] at y0 y1
 by_cases hh : xs[0].id = 1 /\ xs[0].kd = 2
 rotate_left
 ·have Hf := Lib.hid (volOk_no (nx := nx) (xs := xs) fun hp => by
   obtain ⟨x, h1, h2, h3⟩ := hp.head
   have := head_is hkx0 h1
   rw [this] at hh; exact hh ⟨h2, h3⟩)
  by_cases hid : xs[0].id = 1
  ·have hkd : (xs[0].kd != 2) = true := by simpa using fun h => hh ⟨hid, h⟩
   rw [hid] at y0
   clear hh hid
   go_enter Tryz.func58, Tryz.ntmps58
   go_wp2_with fail
   rw [HW1.out]
   have v0 := V0.out
   have v1 := V1.out
   refine (within_any _ _ _ _).mono ?_
   rintro e w' ⟨rfl, rfl⟩
   rw [Hin.out]
   go_wp2_with fail
   refine (within_any _ _ _ _).mono ?_
   rintro e w' ⟨rfl, rfl⟩
   rw [Hin2.out]
   go_wp2_with fail
   go_ret
   exact ⟨ret_bool Hf.out.symm, B1⟩
  ·have hid2 : (xs[0].id != 1) = true := by simpa using hid
   clear hh hid
   go_enter Tryz.func58, Tryz.ntmps58
   go_wp2_with fail
   rw [HW1.out]
   have v0 := V0.out
   have v1 := V1.out
   refine (within_any _ _ _ _).mono ?_
   rintro e w' ⟨rfl, rfl⟩
   rw [Hin.out]
   go_wp2_with fail
   refine (within_any _ _ _ _).mono ?_
   rintro e w' ⟨rfl, rfl⟩
   rw [Hin2.out]
   go_wp2_with fail
   go_ret
   exact ⟨ret_bool Hf.out.symm, B1⟩
 ·obtain ⟨hid, hkd⟩ := hh
  have Hhead := Lib.hid (show ∃ x, xs[0]? = some x /\ x.id = 1 /\ x.kd = 2 from ⟨xs[0], List.getElem?_eq_getElem hkx0, hid, hkd⟩)
  rw [hid] at y0
  rw [hkd] at y1
  clear hid hkd
  go_enter Tryz.func58, Tryz.ntmps58
  go_wp2_with fail
  rw [HW1.out]
  have v0 := V0.out
  have v1 := V1.out
  refine (within_any _ _ _ _).mono ?_
  rintro e w' ⟨rfl, rfl⟩
  rw [Hin.out]
  go_wp2_with fail
  refine (within_any _ _ _ _).mono ?_
  rintro e w' ⟨rfl, rfl⟩
  rw [Hin2.out]
  go_wp2_with fail
  clear v0 v1 y0 y1
  go_loopw [38] (fun i wr => ∃ (k : Nat) (K : Int), k <= n /\ i = .int .i64 K /\ Hid (K = (k : Int)) /\ Hid (∀ j, j < k -> RowP nx xs j) /\ Below W1.heap.size W1 wr)
   (fun i _ => n - (intOf i).toNat)
  case atStart => exact ⟨0, 0, by omega, rfl, rfl, fun j h => absurd h (by omega), bel0 W1⟩
  case round =>
   obtain ⟨k, K, hk, rfl, HK, hrows, hbel⟩ := hrel
   have v0 := kp_ hbel V0.out
   have v1 := kp_ hbel V1.out
   have kn : K.toNat = k := by have := HK.out; omega
   have k0 : 0 <= K := by have := HK.out; omega
   by_cases hlt : k < n
   ·have k1 : K < (n : Int) := by have := HK.out; omega
    obtain ⟨hkx, b, o, A', c', hA, hadb, z0, z1, z2, z3, z4, hrow⟩ := (H1.out.below hbel).at_ hlt
    obtain ⟨rfl, rfl⟩ : b0 = b /\ o0 = o := by simpa using hA
    clear hA
    obtain ⟨x, hx⟩ : ∃ x, xs[k] = x := ⟨_, rfl⟩
    have HX := Lib.hid hx
    have hmem : xs[k] ∈ xs := List.getElem_mem hkx
    rw [hx] at z0 z1 z2 z3 z4 hrow hmem
    clear hx
    obtain ⟨xi, xk, xl, xt, es⟩ := x
    simp only at z0 z1 z2 z3 z4 hrow
    have Hinok := Lib.hid (Hino.out _ hmem A' c')
    simp only at Hinok
    obtain ⟨W3, hW3⟩ : ∃ W3, wr.alloc (.cells #[.int .i64 xi, .int .i64 xk, .int .i64 xl, .string xt, .slice A' es.length c'] 36) = W3 := ⟨_, rfl⟩
    have b3 : Below W1.heap.size W1 W3 := by rw [<- hW3]; exact hbel.alloc hbel.size _
    have hE : Blk W3 wr.heap.size 36 #[.int .i64 xi, .int .i64 xk, .int .i64 xl, .string xt, .slice A' es.length c'] := by rw [<- hW3]; exact Blk.new' _ _ _ _ rfl
    have hb3 : Below wr.heap.size wr W3 := by rw [<- hW3]; exact belA (bel0 wr) _
    have Hrow3 := Lib.hid (((hrow.more hbel.size).below hb3).more hb3.size)
    have HW3 := Lib.hid hW3
    have V30 := Lib.hid (kp_ b3 V0.out)
    have V31 := Lib.hid (kp_ b3 V1.out)
    have E0 := Lib.hid (hE.get 0 rfl)
    have E1 := Lib.hid (hE.get 1 rfl)
    have E2 := Lib.hid (hE.get 2 rfl)
    have E3 := Lib.hid (hE.get 3 rfl)
    have E4 := Lib.hid (hE.get 4 rfl)
    have El := hE.lt
    have hwn : IntKind.i64.wrap (nx - 1) = nx - 1 := IntWalk.i64_in _ (by omega)
    clear hW3 hE hrow hmem
    go_wp2_with fail
    rw [HW3.out]
    clear v0 v1 z0 z1 z2 z3 z4
    have v0 := V30.out
    have v1 := V31.out
    have e0 := E0.out
    rcases hi : inI xi 1 (nx - 1) with _ | _
    ·have Hf := Lib.hid (volOk_no (nx := nx) (xs := xs) fun hp => by
      have h1 := hp.row k hkx
      rw [HX.out] at h1
      have := inI_true.2 ⟨h1.1, h1.2.1⟩
      rw [hi] at this; cases this)
     go_quiet ((first | (go_at_call 67; exact Calls.quiet_of_same (within_q _ _ _ _))))
     go_wp2
     go_ret
     exact ⟨ret_bool Hf.out.symm, below_drewN (belN B1 b3) _⟩
    have hib := inI_true.1 hi
    have HI := Lib.hid hi
    by_cases hkz : k = 0
    ·obtain rfl : K = 0 := by have := HK.out; omega
     have Hrow9 := Lib.hid (show inoOkB xs ⟨xi, xk, xl, xt, es⟩ = true -> RowP nx xs k from fun h hk => by
      rw [HX.out]; exact ⟨hib.1, hib.2, fun h0 => absurd h0 (by omega), h⟩)
     have e1 := E1.out
     have e2 := E2.out
     have e3 := E3.out
     have e4 := E4.out
     refine wp_region_held_drew (S := fun w' => w'.cell? ⟨w.heap.size, 0, none⟩ = some (.int .i64 nx) /\ w'.cell? ⟨w.heap.size, 1, none⟩ = some (.slice (some ⟨b0, o0, none⟩) n c) /\ w'.cell? ⟨wr.heap.size, 0, none⟩ = some (.int .i64 xi) /\ w'.cell? ⟨wr.heap.size, 1, none⟩ = some (.int .i64 xk) /\ w'.cell? ⟨wr.heap.size, 2, none⟩ = some (.int .i64 xl) /\ w'.cell? ⟨wr.heap.size, 3, none⟩ = some (.string xt) /\ w'.cell? ⟨wr.heap.size, 4, none⟩ = some (.slice A' es.length c')) (by kernel_rfl) ⟨v0, v1, e0, e1, e2, e3, e4⟩ (fun hHeld => ?_)
     refine tkW_ 0 ?_
     refine tkW_ 1 ?_
     refine tkW_ 2 ?_
     refine tkW_ 3 ?_
     refine tkW_ 4 ?_
     refine rd1_ 5 (fun K hK => ?_)
     go_simp
     go_at_call 67
     refine (within_any _ _ _ _).mono ?_
     rintro e w' ⟨rfl, rfl⟩
     refine hK.out _ _ hHeld (fun hHeld6 => ?_)
     clear hK K
     refine tkW_ 6 ?_
     refine tkW_ 7 ?_
     refine tkW_ 8 ?_
     refine tkW_ 9 ?_
     refine tkW_ 10 ?_
     refine tkX_ 11 ?_
     refine tkX_ 12 ?_
     refine tkX_ 13 ?_
     refine tkX_ 14 ?_
     refine tkX_ 15 ?_
     refine tkX_ 16 ?_
     refine tkX_ 17 ?_
     refine tkX_ 18 ?_
     refine tkX_ 19 ?_
     refine tkX_ 20 ?_
     refine tkW_ 21 ?_
     refine tkW_ 22 ?_
     refine tkW_ 23 ?_
     refine tkW_ 24 ?_
     refine tkW_ 25 ?_
     refine rd1_ 26 (fun K hK => ?_)
     go_simp
     go_at_call 96
     refine (Hinok.out W3.drew (HT.out.bl (belN B1 b3).drew) (hv.out.next (belN B1 b3).drew) Hrow3.out.drew).mono ?_
     rintro e w7 ⟨rfl, hb7⟩
     refine hK.out _ _ (by obtain ⟨a0, a1, a2, a3, a4, a5, a6⟩ := hHeld6; exact ⟨kp_ hb7 a0, kp_ hb7 a1, kp_ hb7 a2, kp_ hb7 a3, kp_ hb7 a4, kp_ hb7 a5, kp_ hb7 a6⟩) (fun hHeld27 => ?_)
     clear hK K
     clear hHeld6
     refine tkW_ 27 ?_
     refine tkW_ 28 ?_
     refine wpAnyH_done (by kernel_rfl) ?_ _
     have b7 := b3.drew.trans (hb7.mono b3.size)
     rcases hok : inoOkB xs ⟨xi, xk, xl, xt, es⟩ with _ | _
     ·have Hf := Lib.hid (volOk_no (nx := nx) (xs := xs) fun hp => by
       have := (hp.row k hkx).2.2.2
       rw [HX.out, hok] at this; cases this)
      go_wp2
      go_ret
      exact ⟨ret_bool Hf.out.symm, belN B1 b7⟩
     ·have Hnx := Lib.hid (show ∀ j, j < k + 1 -> RowP nx xs j from fun j' hj => by
       by_cases he : j' = k
       ·subst he; exact Hrow9.out hok
       ·exact hrows.out j' (by omega))
      go_wp2
      go_roundw
      case rel => exact ⟨k + 1, 1, by omega, by go_num, by have := HK.out; show _ = _; omega, Hnx, b7⟩
      case measure => simp [intOf]; omega
    ·obtain ⟨j, hj⟩ : ∃ j, k = j + 1 := ⟨k - 1, by omega⟩
     have hK0 : 0 < K := by have := HK.out; omega
     have hK1 : IntKind.i64.wrap (K - 1) = (j : Int) := by rw [IntWalk.i64_in _ (by omega)]; have := HK.out; omega
     have j0 : (0 : Int) <= (j : Int) := by omega
     have j1 : (j : Int) < (n : Int) := by omega
     have hjn : j < n := by omega
     have hk1x : k - 1 < xs.length := by omega
     obtain ⟨hjx, b', o', _, _, hA', _, y0, _⟩ := (H1.out.below b3).at_ hjn
     obtain ⟨rfl, rfl⟩ : b0 = b' /\ o0 = o' := by simpa using hA'
     clear hA'
     obtain ⟨y, hy⟩ : ∃ y, xs[j].id = y := ⟨_, rfl⟩
     have HY := Lib.hid hy
     rw [hy] at y0
     clear hy
     have hprev : xs[k - 1]'hk1x = xs[j] := by congr 1; omega
     have Hprev := Lib.hid hprev
     clear hprev
     by_cases hge : xi <= y
     ·have Hf := Lib.hid (volOk_no (nx := nx) (xs := xs) fun hp => by
       have h1 := (hp.row k hkx).2.2.1 (by omega)
       rw [Hprev.out, HY.out, HX.out] at h1
       simp only at h1
       omega)
      go_quiet ((first | (go_at_call 67; exact Calls.quiet_of_same (within_q _ _ _ _))))
      go_wp2
      go_ret
      exact ⟨ret_bool Hf.out.symm, below_drewN (belN B1 b3) _⟩
     ·have hge2 : decide (xi <= y) = false := by simp; omega
      have Hrow9 := Lib.hid (show inoOkB xs ⟨xi, xk, xl, xt, es⟩ = true -> RowP nx xs k from fun h hk => by
       rw [HX.out]; exact ⟨hib.1, hib.2, fun h0 => by rw [Hprev.out, HY.out]; simp only; omega, h⟩)
      clear hi
      have e1 := E1.out
      have e2 := E2.out
      have e3 := E3.out
      have e4 := E4.out
      go_region_held3 (fun w' => w'.cell? ⟨w.heap.size, 0, none⟩ = some (.int .i64 nx) /\ w'.cell? ⟨w.heap.size, 1, none⟩ = some (.slice (some ⟨b0, o0, none⟩) n c) /\ w'.cell? ⟨wr.heap.size, 0, none⟩ = some (.int .i64 xi) /\ w'.cell? ⟨wr.heap.size, 1, none⟩ = some (.int .i64 xk) /\ w'.cell? ⟨wr.heap.size, 2, none⟩ = some (.int .i64 xl) /\ w'.cell? ⟨wr.heap.size, 3, none⟩ = some (.string xt) /\ w'.cell? ⟨wr.heap.size, 4, none⟩ = some (.slice A' es.length c') /\ w'.cell? ⟨b0, o0 + j * 5, none⟩ = some (.int .i64 y))
       (first | go_keep | (refine ⟨keep1 hb7 ?_, keep1 hb7 ?_, keep1 hb7 ?_, keep1 hb7 ?_, keep1 hb7 ?_, keep1 hb7 ?_, keep1 hb7 ?_, keep1 hb7 ?_⟩ <;> go_keep))
       (first
        | (go_at_call 67; refine (within_any _ _ _ _).mono ?_; rintro e w' ⟨rfl, rfl⟩; rw [HI.out])
        | (go_at_call 96; refine (Hinok.out W3.drew (HT.out.bl (belN B1 b3).drew) (hv.out.next (belN B1 b3).drew) Hrow3.out.drew).mono ?_; rintro e w7 ⟨rfl, hb7⟩))
      have b7 := b3.drew.trans (hb7.mono b3.size)
      rcases hok : inoOkB xs ⟨xi, xk, xl, xt, es⟩ with _ | _
      ·have Hf := Lib.hid (volOk_no (nx := nx) (xs := xs) fun hp => by
        have := (hp.row k hkx).2.2.2
        rw [HX.out, hok] at this; cases this)
       go_wp2
       go_ret
       exact ⟨ret_bool Hf.out.symm, belN B1 b7⟩
      ·have Hnx := Lib.hid (show ∀ j, j < k + 1 -> RowP nx xs j from fun j' hj => by
        by_cases he : j' = k
        ·subst he; exact Hrow9.out hok
        ·exact hrows.out j' (by omega))
       go_wp2
       go_roundw
       case rel => exact ⟨k + 1, K + 1, by omega, by go_num, by have := HK.out; show _ = _; omega, Hnx, b7⟩
       case measure => simp [intOf]; omega
   ·obtain rfl : k = n := by omega
    have hKn : ¬ (K < (k : Int)) := by have := HK.out; omega
    have Hrp := Lib.hid (show ∀ j, RowP nx xs j from fun j hj => hrows.out j (by have := HL.out; omega) hj)
    go_wp2_with fail
    refine (Hbel.out wr (hv.out.next (belN B1 hbel))).mono ?_
    rintro e w5 ⟨vo, out, rfl, hown, hiff, hol, hb5⟩
    obtain ⟨Ao, co, rfl, _, _, hrd⟩ := own_vals hown
    have b5 := hbel.trans (hb5.mono hbel.size)
    clear v0 v1 hown
    have v0 := kp_ b5 V0.out
    have v1 := kp_ b5 V1.out
    have hmf : ∀ (fn : Fn) (first cap : Array Value) (w : World), (Instr.makeFunc fn first cap).run Tryz.prog w = .ok (.func fn first cap) w := fun _ _ _ _ => rfl
    have hw5 : w.heap.size < w5.heap.size := by have := b5.size; omega
    have Hiff := Lib.hid hiff
    have Hrd := Lib.hid hrd
    clear hiff hrd
    have HcapH := Lib.hid (H1.out.below b5)
    have hB6 := Blk.new' w5 73 #[.slice Ao out.length co] w5.heap.size
    have b6 := belA (bel0 w5) (.cells #[.slice Ao out.length co] 73)
    have hcl : ∀ A5 c5 n5, VAt w5 w5.heap.size A5 n5 (xs.drop 1) -> n5 <= 10000000 -> Calls Tryz.prog 97 #[.slice A5 n5 c5, .func (.func 98) #[] #[.pointer (some ⟨w5.heap.size, 0, none⟩)]] (w5.alloc (.cells #[.slice Ao out.length co] 73)) fun e w' => e = .returned (.bool ((xs.drop 1).any fun x => !decide (x.id ∈ out))) /\ Below (w5.alloc (.cells #[.slice Ao out.length co] 73)).heap.size (w5.alloc (.cells #[.slice Ao out.length co] 73)) w' := by
     intro A5 c5 n5 hV hn5
     refine containsFunc_vol (fun x => !decide (x.id ∈ out)) (.pointer (some ⟨w5.heap.size, 0, none⟩)) A5 n5 c5 (xs.drop 1) (by omega) _ ((hV.below b6).more b6.size) fun W hW x _ A' c' => ?_
     refine volOk_clo Ao co out hol w5.heap.size x A' c' W (kp_ hW (hB6.get 0 rfl)) ?_
     exact (((Hrd.out.below b6).more b6.size).below hW).more hW.size
    have Hfin := Lib.hid (volOk_fin (out := out) ⟨hnx2, hnx9⟩ (by have := HL.out; omega) Hhead.out Hrp.out Hiff.out)
    have Hcl := Lib.hid hcl
    clear hcl hB6
    obtain ⟨bb, hbb⟩ : ∃ bb, ((xs.drop 1).any fun x => !decide (x.id ∈ out)) = bb := ⟨_, rfl⟩
    rw [hbb] at Hfin
    simp only [hbb] at Hcl
    clear hbb
    by_cases hc1 : c = 1
    ·subst hc1
     have hk1 : k = 1 := by omega
     subst hk1
     have hV5 := HcapH.out.tail (c := 1) (by omega) hcap
     rw [if_pos rfl] at hV5
     have hV6 : VAt w5 w5.heap.size (some ⟨b0, o0, none⟩) 0 (xs.drop 1) := hV5.more b5.size
     have Hc6 := Lib.hid (Hcl.out _ 0 0 hV6 (Nat.zero_le _))
     clear hV5 hV6
     go_wp2_with fail
     refine Hc6.out.mono ?_
     rintro e w7 ⟨rfl, hb7⟩
     have b7 := belN (belN (belN B1 b5) b6) hb7
     go_wp2
     go_ret
     exact ⟨ret_bool Hfin.out, b7⟩
    ·have hV5 := HcapH.out.tail (c := c) (by omega) hcap
     rw [if_neg hc1] at hV5
     have hV6 : VAt w5 w5.heap.size (some ⟨b0, o0 + 5, none⟩) (k - 1) (xs.drop 1) := by
      have := hV5.more b5.size
      rw [Option.map_some, Addr.add_lit] at this
      exact this
     have Hc6 := Lib.hid (Hcl.out _ (c - 1) (k - 1) hV6 (by omega))
     clear hV5 hV6
     go_wp2_with fail
     refine Hc6.out.mono ?_
     rintro e w7 ⟨rfl, hb7⟩
     have b7 := belN (belN (belN B1 b5) b6) hb7
     go_wp2
     go_ret
     exact ⟨ret_bool Hfin.out, b7⟩

theorem l1In_q (a b c : Int) (w : World) : Calls Tryz.prog 56 #[.int .i64 a, .int .i64 b, .int .i64 c] w fun e w' => e = .returned (.bool (inI a b c)) /\ w' = w :=
 (l1In_any a b c w).mono fun _ _ ⟨he, hw⟩ => ⟨he, hw.symm⟩

theorem volOk_spec (v : Value) (V : VolD) (sm : szV V <= 1048576) (w : World) (hC : IsVolC w v V) :
  Calls Tryz.prog 16 #[v] w fun e w' => e = .returned (.bool (volOkB V.nx V.xs)) /\ Below w.heap.size w w' := by
 have Hino := Lib.hid (fun x hx A' c' W hW hr => inodeOk_spec v V sm x hx A' c' W hW hr)
 have Hbel := Lib.hid (fun W hW => l6Below_any v V (v_len sm) (v_all sm) 1 W hW)
 have hv := Lib.hid hC.is
 have hn := v_len sm
 obtain ⟨A, c, rfl, h, hcap⟩ := hC
 obtain ⟨nx, xs⟩ := V
 simp only at h hn Hino Hbel hcap ⊢
 have H := Lib.hid h
 clear h sm
 obtain ⟨n, hn'⟩ : ∃ n, xs.length = n := ⟨_, rfl⟩
 have HL := Lib.hid hn'
 simp only [hn'] at H hn Hino Hbel hv hcap ⊢
 clear hn'
 obtain ⟨W1, hW1⟩ : ∃ W1, w.alloc (.cells #[.int .i64 nx, .slice A n c] 26) = W1 := ⟨_, rfl⟩
 have B1 : Below w.heap.size w W1 := by rw [<- hW1]; exact belA (bel0 w) _
 have S1 : W1.heap.size = w.heap.size + 1 := by rw [<- hW1]; simp
 have hV : Blk W1 w.heap.size 26 #[.int .i64 nx, .slice A n c] := by rw [<- hW1]; exact Blk.new' _ _ _ _ rfl
 have HW1 := Lib.hid hW1
 have V0 := Lib.hid (hV.get 0 rfl)
 have V1 := Lib.hid (hV.get 1 rfl)
 have H1 := Lib.hid ((H.out.below B1).more B1.size)
 clear hW1 hV
 rcases hin : inI nx 2 100000 with _ | _
 ·have Hf := Lib.hid (volOk_no (nx := nx) (xs := xs) fun hp => by have := inI_true.2 hp.next; rw [hin] at this; cases this)
  have Hin := Lib.hid hin
  clear hin
  go_enter Tryz.func16, Tryz.ntmps16
  go_wp2_with (go_at_call 56; refine (l1In_any _ _ _ _).mono ?_; rintro e w' ⟨rfl, rfl⟩; rw [Hin.out])
  go_ret
  exact ⟨ret_bool Hf.out.symm, belA (bel0 w) _⟩
 rcases hin2 : inI (n : Int) 1 16 with _ | _
 ·have Hf := Lib.hid (volOk_no (nx := nx) (xs := xs) fun hp => by
   have h1 := hp.n
   rw [HL.out] at h1
   have := inI_true.2 (show (1 : Int) <= (n : Int) /\ (n : Int) <= 16 by omega)
   rw [hin2] at this; cases this)
  have Hin := Lib.hid hin
  have Hin2 := Lib.hid hin2
  clear hin hin2
  go_enter Tryz.func16, Tryz.ntmps16
  go_wp2_with (go_at_call 56; refine (l1In_any _ _ _ _).mono ?_; rintro e w' ⟨rfl, rfl⟩; first | rw [Hin.out] | rw [Hin2.out])
  go_ret
  exact ⟨ret_bool Hf.out.symm, belA (bel0 w) _⟩
 obtain ⟨hnx2, hnx9⟩ := inI_true.1 hin
 have hn16 := inI_true.1 hin2
 have Hin := Lib.hid hin
 have Hin2 := Lib.hid hin2
 have hn0 : 0 < n := by omega
 clear hin hin2
 obtain ⟨hkx0, b0, o0, A0', c0', rfl, hadb0, z0, z1, z2, z3, z4, hrow0⟩ := H.out.at_ hn0
 have hbw : b0 < w.heap.size := hadb0
 have y0 := kp_ B1 z0
 have y1 := kp_ B1 z1
 clear hrow0 z2 z3 z4 z0 z1
 simp only [Nat.zero_mul, Nat.add_zero] at y0 y1
 by_cases hh : xs[0].id = 1 /\ xs[0].kd = 2
 rotate_left
 ·have Hf := Lib.hid (volOk_no (nx := nx) (xs := xs) fun hp => by
   obtain ⟨x, h1, h2, h3⟩ := hp.head
   have := head_is hkx0 h1
   rw [this] at hh; exact hh ⟨h2, h3⟩)
  by_cases hid : xs[0].id = 1
  ·have hkd : (xs[0].kd != 2) = true := by simpa using fun h => hh ⟨hid, h⟩
   rw [hid] at y0
   clear hh hid
   go_enter Tryz.func16, Tryz.ntmps16
   go_wp2_with fail
   rw [HW1.out]
   have v0 := V0.out
   have v1 := V1.out
   refine (l1In_any _ _ _ _).mono ?_
   rintro e w' ⟨rfl, rfl⟩
   rw [Hin.out]
   go_wp2_with fail
   refine (l1In_any _ _ _ _).mono ?_
   rintro e w' ⟨rfl, rfl⟩
   rw [Hin2.out]
   go_wp2_with fail
   go_ret
   exact ⟨ret_bool Hf.out.symm, B1⟩
  ·have hid2 : (xs[0].id != 1) = true := by simpa using hid
   clear hh hid
   go_enter Tryz.func16, Tryz.ntmps16
   go_wp2_with fail
   rw [HW1.out]
   have v0 := V0.out
   have v1 := V1.out
   refine (l1In_any _ _ _ _).mono ?_
   rintro e w' ⟨rfl, rfl⟩
   rw [Hin.out]
   go_wp2_with fail
   refine (l1In_any _ _ _ _).mono ?_
   rintro e w' ⟨rfl, rfl⟩
   rw [Hin2.out]
   go_wp2_with fail
   go_ret
   exact ⟨ret_bool Hf.out.symm, B1⟩
 ·obtain ⟨hid, hkd⟩ := hh
  have Hhead := Lib.hid (show ∃ x, xs[0]? = some x /\ x.id = 1 /\ x.kd = 2 from ⟨xs[0], List.getElem?_eq_getElem hkx0, hid, hkd⟩)
  rw [hid] at y0
  rw [hkd] at y1
  clear hid hkd
  go_enter Tryz.func16, Tryz.ntmps16
  go_wp2_with fail
  rw [HW1.out]
  have v0 := V0.out
  have v1 := V1.out
  refine (l1In_any _ _ _ _).mono ?_
  rintro e w' ⟨rfl, rfl⟩
  rw [Hin.out]
  go_wp2_with fail
  refine (l1In_any _ _ _ _).mono ?_
  rintro e w' ⟨rfl, rfl⟩
  rw [Hin2.out]
  go_wp2_with fail
  clear v0 v1 y0 y1
  go_loopw [3] (fun i wr => ∃ (k : Nat) (K : Int), k <= n /\ i = .int .i64 K /\ Hid (K = (k : Int)) /\ Hid (∀ j, j < k -> RowP nx xs j) /\ Below W1.heap.size W1 wr)
   (fun i _ => n - (intOf i).toNat)
  case atStart => exact ⟨0, 0, by omega, rfl, rfl, fun j h => absurd h (by omega), bel0 W1⟩
  case round =>
   obtain ⟨k, K, hk, rfl, HK, hrows, hbel⟩ := hrel
   have v0 := kp_ hbel V0.out
   have v1 := kp_ hbel V1.out
   have kn : K.toNat = k := by have := HK.out; omega
   have k0 : 0 <= K := by have := HK.out; omega
   by_cases hlt : k < n
   ·have k1 : K < (n : Int) := by have := HK.out; omega
    obtain ⟨hkx, b, o, A', c', hA, hadb, z0, z1, z2, z3, z4, hrow⟩ := (H1.out.below hbel).at_ hlt
    obtain ⟨rfl, rfl⟩ : b0 = b /\ o0 = o := by simpa using hA
    clear hA
    obtain ⟨x, hx⟩ : ∃ x, xs[k] = x := ⟨_, rfl⟩
    have HX := Lib.hid hx
    have hmem : xs[k] ∈ xs := List.getElem_mem hkx
    rw [hx] at z0 z1 z2 z3 z4 hrow hmem
    clear hx
    obtain ⟨xi, xk, xl, xt, es⟩ := x
    simp only at z0 z1 z2 z3 z4 hrow
    have Hinok := Lib.hid (Hino.out _ hmem A' c')
    simp only at Hinok
    have Hrow3 := Lib.hid (hrow.more hbel.size)
    have hwn : IntKind.i64.wrap (nx - 1) = nx - 1 := IntWalk.i64_in _ (by omega)
    clear hrow hmem
    go_wp2_with fail
    rcases hi : inI xi 1 (nx - 1) with _ | _
    ·have Hf := Lib.hid (volOk_no (nx := nx) (xs := xs) fun hp => by
      have h1 := hp.row k hkx
      rw [HX.out] at h1
      have := inI_true.2 ⟨h1.1, h1.2.1⟩
      rw [hi] at this; cases this)
     go_quiet ((first | (go_at_call 56; exact Calls.quiet_of_same (l1In_q _ _ _ _))))
     go_wp2
     go_ret
     exact ⟨ret_bool Hf.out.symm, below_drewN (belN B1 hbel) _⟩
    have hib := inI_true.1 hi
    have HI := Lib.hid hi
    by_cases hkz : k = 0
    ·obtain rfl : K = 0 := by have := HK.out; omega
     have Hrow9 := Lib.hid (show inoOkB xs ⟨xi, xk, xl, xt, es⟩ = true -> RowP nx xs k from fun h hk => by
      rw [HX.out]; exact ⟨hib.1, hib.2, fun h0 => absurd h0 (by omega), h⟩)
     have hkz2 := Lib.hid hkz
     rw [hkz] at z0 z1 z2 z3 z4
     simp only [Nat.zero_mul, Nat.add_zero] at z0 z1 z2 z3 z4
     refine wp_region_held_drew (S := fun w' => w'.cell? ⟨w.heap.size, 0, none⟩ = some (.int .i64 nx) /\ w'.cell? ⟨w.heap.size, 1, none⟩ = some (.slice (some ⟨b0, o0, none⟩) n c) /\ w'.cell? ⟨b0, o0, none⟩ = some (.int .i64 xi) /\ w'.cell? ⟨b0, o0 + 1, none⟩ = some (.int .i64 xk) /\ w'.cell? ⟨b0, o0 + 2, none⟩ = some (.int .i64 xl) /\ w'.cell? ⟨b0, o0 + 3, none⟩ = some (.string xt) /\ w'.cell? ⟨b0, o0 + 4, none⟩ = some (.slice A' es.length c')) (by kernel_rfl) ⟨v0, v1, z0, z1, z2, z3, z4⟩ (fun hHeld => ?_)
     refine tkW_ 0 ?_
     refine tkW_ 1 ?_
     refine tkW_ 2 ?_
     refine tkW_ 3 ?_
     refine tkW_ 4 ?_
     refine tkW_ 5 ?_
     refine tkW_ 6 ?_
     refine tkW_ 7 ?_
     refine tkW_ 8 ?_
     refine rd1_ 9 (fun K hK => ?_)
     go_simp
     go_at_call 56
     refine (l1In_any _ _ _ _).mono ?_
     rintro e w' ⟨rfl, rfl⟩
     refine hK.out _ _ hHeld (fun hHeld10 => ?_)
     clear hK K
     refine tkW_ 10 ?_
     refine tkW_ 11 ?_
     refine tkW_ 12 ?_
     refine tkW_ 13 ?_
     refine tkW_ 14 ?_
     refine tkX_ 15 ?_
     refine tkX_ 16 ?_
     refine tkX_ 17 ?_
     refine tkX_ 18 ?_
     refine tkX_ 19 ?_
     refine tkX_ 20 ?_
     refine tkX_ 21 ?_
     refine tkX_ 22 ?_
     refine tkX_ 23 ?_
     refine tkX_ 24 ?_
     refine tkX_ 25 ?_
     refine tkX_ 26 ?_
     refine tkX_ 27 ?_
     refine tkX_ 28 ?_
     refine tkW_ 29 ?_
     refine tkW_ 30 ?_
     refine tkW_ 31 ?_
     refine tkW_ 32 ?_
     refine tkW_ 33 ?_
     refine tkW_ 34 ?_
     refine tkW_ 35 ?_
     refine tkW_ 36 ?_
     refine tkW_ 37 ?_
     refine rd1_ 38 (fun K hK => ?_)
     go_simp
     go_at_call 57
     refine (Hinok.out wr.drew (hv.out.next (belN B1 hbel).drew) Hrow3.out.drew).mono ?_
     rintro e w7 ⟨rfl, hb7⟩
     refine hK.out _ _ (by obtain ⟨a0, a1, a2, a3, a4, a5, a6⟩ := hHeld10; exact ⟨kp_ hb7 a0, kp_ hb7 a1, kp_ hb7 a2, kp_ hb7 a3, kp_ hb7 a4, kp_ hb7 a5, kp_ hb7 a6⟩) (fun hHeld39 => ?_)
     clear hK K
     clear hHeld10
     refine tkW_ 39 ?_
     refine tkW_ 40 ?_
     refine wpAnyH_done (by kernel_rfl) ?_ _
     have b7 := hbel.drew.trans (hb7.mono hbel.size)
     rcases hok : inoOkB xs ⟨xi, xk, xl, xt, es⟩ with _ | _
     ·have Hf := Lib.hid (volOk_no (nx := nx) (xs := xs) fun hp => by
       have := (hp.row k hkx).2.2.2
       rw [HX.out, hok] at this; cases this)
      go_wp2
      go_ret
      exact ⟨ret_bool Hf.out.symm, belN B1 b7⟩
     ·have Hnx := Lib.hid (show ∀ j, j < k + 1 -> RowP nx xs j from fun j' hj => by
       by_cases he : j' = k
       ·subst he; exact Hrow9.out hok
       ·exact hrows.out j' (by omega))
      go_wp2
      go_roundw
      case rel => exact ⟨k + 1, 1, by omega, by go_num, by have := HK.out; show _ = _; omega, Hnx, b7⟩
      case measure => simp [intOf]; omega
    ·obtain ⟨j, hj⟩ : ∃ j, k = j + 1 := ⟨k - 1, by omega⟩
     have hK0 : 0 < K := by have := HK.out; omega
     have hK1 : IntKind.i64.wrap (K - 1) = (j : Int) := by rw [IntWalk.i64_in _ (by omega)]; have := HK.out; omega
     have j0 : (0 : Int) <= (j : Int) := by omega
     have j1 : (j : Int) < (n : Int) := by omega
     have hjn : j < n := by omega
     have hk1x : k - 1 < xs.length := by omega
     obtain ⟨hjx, b', o', _, _, hA', _, y0, _⟩ := (H1.out.below hbel).at_ hjn
     obtain ⟨rfl, rfl⟩ : b0 = b' /\ o0 = o' := by simpa using hA'
     clear hA'
     obtain ⟨y, hy⟩ : ∃ y, xs[j].id = y := ⟨_, rfl⟩
     have HY := Lib.hid hy
     rw [hy] at y0
     clear hy
     have hprev : xs[k - 1]'hk1x = xs[j] := by congr 1; omega
     have Hprev := Lib.hid hprev
     clear hprev hj
     by_cases hge : xi <= y
     ·have Hf := Lib.hid (volOk_no (nx := nx) (xs := xs) fun hp => by
       have h1 := (hp.row k hkx).2.2.1 (by omega)
       rw [Hprev.out, HY.out, HX.out] at h1
       simp only at h1
       omega)
      go_quiet ((first | (go_at_call 56; exact Calls.quiet_of_same (l1In_q _ _ _ _))))
      go_wp2
      go_ret
      exact ⟨ret_bool Hf.out.symm, below_drewN (belN B1 hbel) _⟩
     ·have hge2 : decide (xi <= y) = false := by simp; omega
      have Hrow9 := Lib.hid (show inoOkB xs ⟨xi, xk, xl, xt, es⟩ = true -> RowP nx xs k from fun h hk => by
       rw [HX.out]; exact ⟨hib.1, hib.2, fun h0 => by rw [Hprev.out, HY.out]; simp only; omega, h⟩)
      clear hi
      go_region_held3 (fun w' => w'.cell? ⟨w.heap.size, 0, none⟩ = some (.int .i64 nx) /\ w'.cell? ⟨w.heap.size, 1, none⟩ = some (.slice (some ⟨b0, o0, none⟩) n c) /\ w'.cell? ⟨b0, o0 + k * 5, none⟩ = some (.int .i64 xi) /\ w'.cell? ⟨b0, o0 + k * 5 + 1, none⟩ = some (.int .i64 xk) /\ w'.cell? ⟨b0, o0 + k * 5 + 2, none⟩ = some (.int .i64 xl) /\ w'.cell? ⟨b0, o0 + k * 5 + 3, none⟩ = some (.string xt) /\ w'.cell? ⟨b0, o0 + k * 5 + 4, none⟩ = some (.slice A' es.length c') /\ w'.cell? ⟨b0, o0 + j * 5, none⟩ = some (.int .i64 y))
       (first | go_keep | (refine ⟨keep1 hb7 ?_, keep1 hb7 ?_, keep1 hb7 ?_, keep1 hb7 ?_, keep1 hb7 ?_, keep1 hb7 ?_, keep1 hb7 ?_, keep1 hb7 ?_⟩ <;> go_keep))
       (first
        | (go_at_call 56; refine (l1In_any _ _ _ _).mono ?_; rintro e w' ⟨rfl, rfl⟩; rw [HI.out])
        | (go_at_call 57; refine (Hinok.out wr.drew (hv.out.next (belN B1 hbel).drew) Hrow3.out.drew).mono ?_; rintro e w7 ⟨rfl, hb7⟩))
      have b7 := hbel.drew.trans (hb7.mono hbel.size)
      rcases hok : inoOkB xs ⟨xi, xk, xl, xt, es⟩ with _ | _
      ·have Hf := Lib.hid (volOk_no (nx := nx) (xs := xs) fun hp => by
        have := (hp.row k hkx).2.2.2
        rw [HX.out, hok] at this; cases this)
       go_wp2
       go_ret
       exact ⟨ret_bool Hf.out.symm, belN B1 b7⟩
      ·have Hnx := Lib.hid (show ∀ j, j < k + 1 -> RowP nx xs j from fun j' hj => by
        by_cases he : j' = k
        ·subst he; exact Hrow9.out hok
        ·exact hrows.out j' (by omega))
       go_wp2
       go_roundw
       case rel => exact ⟨k + 1, K + 1, by omega, by go_num, by have := HK.out; show _ = _; omega, Hnx, b7⟩
       case measure => simp [intOf]; omega
   ·obtain rfl : k = n := by omega
    have hKn : ¬ (K < (k : Int)) := by have := HK.out; omega
    have Hrp := Lib.hid (show ∀ j, RowP nx xs j from fun j hj => hrows.out j (by have := HL.out; omega) hj)
    go_wp2_with fail
    refine (Hbel.out wr (hv.out.next (belN B1 hbel))).mono ?_
    rintro e w5 ⟨g, rfl, hown, hb5⟩
    have Own5 := Lib.hid hown
    have b5 := hbel.trans (hb5.mono hbel.size)
    have Hbl := Lib.hid (fun (j : Nat) (hj : j < xs.length) => below_own (xs := xs) (fun i hi h0 => (Hrp.out i hi).2.2.1 h0) 1 hj)
    have Hblen := Lib.hid (belowB_len xs 1)
    obtain ⟨B, hB⟩ : ∃ B, belowB xs 1 = B := ⟨_, rfl⟩
    rw [hB] at Own5 Hbl Hblen
    clear v0 v1 hown hB
    go_wp2
    go_loopw [5] (fun i wr => ∃ (j : Nat), 1 <= j /\ j <= k /\ i = .int .i64 j /\ Hid (∀ (i : Nat), 1 <= i -> i < j -> B[i]? = some true) /\ Below w5.heap.size w5 wr)
     (fun i _ => k - (intOf i).toNat)
    case atStart => exact ⟨1, by omega, by omega, rfl, fun i h1 h2 => absurd h1 (by omega), bel0 w5⟩
    case round =>
     obtain ⟨j, h1j, hjk, rfl, hall, hbel5⟩ := hrel
     by_cases hlj : j < k
     ·have j0 : (0 : Int) <= (j : Int) := by omega
      have j1 : (j : Int) < (k : Int) := by omega
      have hjx : j < xs.length := by have := HL.out; omega
      rcases bool_at (l := B) (k := j) (by have := Hblen.out; omega) with hb | hb
      ·have cb := kp_ hbel5 (own_bool Own5.out hb)
       have Hnx := Lib.hid (show ∀ (i : Nat), 1 <= i -> i < j + 1 -> B[i]? = some true from fun i h1 h2 => by
        by_cases he : i = j
        ·subst he; exact hb
        ·exact hall.out i h1 (by omega))
       clear hb
       go_wp2
       go_roundw
       case rel => exact ⟨j + 1, by omega, by omega, by go_num, Hnx, hbel5⟩
       case measure => simp [intOf]; omega
      ·have cb := kp_ hbel5 (own_bool Own5.out hb)
       have Hf := Lib.hid (volOk_no (nx := nx) (xs := xs) fun hp => by
        have := (Hbl.out j hjx).2 (hp.reach j hjx h1j)
        rw [hb] at this; cases this)
       clear hb
       go_wp2
       go_ret
       exact ⟨ret_bool Hf.out.symm, belN (belN B1 b5) hbel5⟩
     ·obtain rfl : j = k := by omega
      have Hf := Lib.hid (show volOkB nx xs = true from volOkB_iff.2 ⟨⟨hnx2, hnx9⟩, by have := HL.out; omega, Hhead.out, fun i hi => Hrp.out i hi, fun i hi h1 => (Hbl.out i hi).1 (hall.out i h1 (by have := HL.out; omega))⟩)
      go_wp2
      go_ret
      exact ⟨ret_bool Hf.out.symm, belN (belN B1 b5) hbel5⟩

end Go.Proofs.YtjjniapamdleoaaGreatDoor
