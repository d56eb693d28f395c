/- Whether an inode is right, in both packages. -/
import Derived.Test.YtjjniapamdleoaaGreatDoorRCVolA
import Derived.Test.YtjjniapamdleoaaGreatDoorRCLook
import Derived.BigQuiet
namespace Go.Proofs.YtjjniapamdleoaaGreatDoor
open Go Go.RowKit
set_option maxHeartbeats 8000000
set_option maxRecDepth 100000

theorem idxE_any {ds : List EntD} {p : EntD -> Bool} {r : Int} (h : IdxE ds p r) : decide (0 <= r) = ds.any p := by
 rcases h with ⟨rfl, h⟩ | ⟨k, hk, rfl, h⟩
 ·rw [List.find?_eq_none] at h
  have : ds.any p = false := by rw [List.any_eq_false]; exact h
  rw [this]; rfl
 ·have h2 : ds.any p = true := List.any_eq_true.2 ⟨_, List.getElem_mem hk, List.find?_some h⟩
  rw [h2]; simp

theorem indexFunc_ino (p : EntD -> Bool) (cap : Value) (A : Option Addr) (n c : Nat) (ds : List EntD) (hn : n <= 9223372036854775807) (w : World) (hr : Reads w w.heap.size 4 A n (ES ds))
  (hcl : ∀ W, Below w.heap.size w W -> ∀ e ∈ ds, Calls Tryz.prog 143 #[.agg #[.int .i64 e.h, .int .i64 e.i, .string e.s, .int .i64 e.d], cap] W fun r w' => r = .returned (.bool (p e)) /\ Below W.heap.size W w') :
  Calls Tryz.prog 144 #[.slice A n c, .func (.func 143) #[] #[cap]] w fun e w' => ∃ r : Int, e = .returned (.int .i64 r) /\ IdxE ds p r /\ Below w.heap.size w w' := by
 have hl : ds.length = n := by have := hr.1; rw [ES_length] at this; omega
 have Hr := Lib.hid hr
 have HL := Lib.hid hl
 have Hcl := Lib.hid hcl
 clear hr hl hcl
 go_enter Tryz.func144, Tryz.ntmps144
 go_wp2
 go_loopw [8] (fun i wr => ∃ (k : Nat), k <= n /\ i = .int .i64 k /\ Hid ((ds.take k).find? p = none) /\ Below w.heap.size w wr)
  (fun i _ => n - (intOf i).toNat)
 case atStart => exact ⟨0, by omega, rfl, by simp [Hid], bel0 w⟩
 case round =>
  obtain ⟨k, hk, rfl, hnone, hbel⟩ := hrel
  by_cases hlt : k < n
  ·obtain ⟨hkx, b, o, rfl, hadb, z0, z1, z2, z3⟩ := reads_ent (Hr.out.below hbel) hlt
   have q0 : (0 : Int) <= ↑k := by omega
   have q1 : (↑k : Int) < ↑n := by omega
   have hts := Lib.hid (List.take_succ_eq_append_getElem hkx)
   have hdr := Lib.hid (show ds = ds.take k ++ ds[k] :: ds.drop (k + 1) by rw [<- List.drop_eq_getElem_cons hkx, List.take_append_drop])
   have hck := Lib.hid (Hcl.out wr hbel ds[k] (List.getElem_mem hkx))
   obtain ⟨e, he⟩ : ∃ e, ds[k] = e := ⟨_, rfl⟩
   have He := Lib.hid he
   rw [he] at z0 z1 z2 z3 hts hdr hck
   clear he
   rcases hp : p e with _ | _
   ·have Hm := Lib.hid (find_miss (p := p) hnone.out hp)
    have Hp := Lib.hid hp
    clear hp
    go_wp2_with fail
    refine hck.out.mono ?_
    rintro r w2 ⟨rfl, hb2⟩
    rw [Hp.out]
    go_wp2
    go_roundw
    case rel => exact ⟨k + 1, by omega, by go_num, by show _ = _; rw [hts.out]; exact Hm.out, belN hbel hb2⟩
    case measure => simp [intOf]; omega
   ·have Hf := Lib.hid (show ds.find? p = some e by rw [hdr.out]; exact find_hit (p := p) hnone.out hp)
    have Hp := Lib.hid hp
    clear hp
    go_wp2_with fail
    refine hck.out.mono ?_
    rintro r w2 ⟨rfl, hb2⟩
    rw [Hp.out]
    go_wp2
    go_ret
    exact ⟨_, rfl, .inr ⟨k, hkx, rfl, by rw [Hf.out, He.out]⟩, belN hbel hb2⟩
  ·have Hf := Lib.hid (show ds.find? p = none by have := hnone.out; rwa [List.take_of_length_le (by have := HL.out; omega)] at this)
   go_wp2
   go_ret
   exact ⟨_, rfl, .inl ⟨rfl, Hf.out⟩, hbel⟩

theorem containsFunc_ino (p : EntD -> Bool) (cap : Value) (A : Option Addr) (n c : Nat) (ds : List EntD) (hn : n <= 9223372036854775807) (w : World) (hr : Reads w w.heap.size 4 A n (ES ds))
  (hcl : ∀ W, Below w.heap.size w W -> ∀ e ∈ ds, Calls Tryz.prog 143 #[.agg #[.int .i64 e.h, .int .i64 e.i, .string e.s, .int .i64 e.d], cap] W fun r w' => r = .returned (.bool (p e)) /\ Below W.heap.size W w') :
  Calls Tryz.prog 99 #[.slice A n c, .func (.func 143) #[] #[cap]] w fun e w' => e = .returned (.bool (ds.any p)) /\ Below w.heap.size w w' := by
 have H := Lib.hid (indexFunc_ino p cap A n c ds hn w hr hcl)
 clear hr hcl
 go_enter Tryz.func99, Tryz.ntmps99
 go_wp2_with fail
 refine H.out.mono ?_
 rintro e w1 ⟨r, rfl, hi, hb1⟩
 have Hi := Lib.hid (idxE_any hi)
 clear hi
 go_wp2
 go_ret
 exact ⟨ret_bool (by first | exact Hi.out | simpa using Hi.out), hb1⟩

/-- An entry that must not be in a volume. -/
def badE (xs : List InoD) (e : EntD) : Bool := (e.d == 1) || decide (plc xs e.d < 0)
theorem badE_any (xs : List InoD) (es : List EntD) : (!es.any (badE xs)) = es.all (fun e => decide (e.d ≠ 1) && decide (0 <= plc xs e.d)) := by
 rw [List.not_any_eq_all_not]
 congr 1
 funext e
 unfold badE
 by_cases h1 : e.d = 1
 ·simp [h1]
 ·by_cases h2 : plc xs e.d < 0
  ·have : ¬ 0 <= plc xs e.d := by omega
   simp [h1, h2, this]
  ·have : 0 <= plc xs e.d := by omega
   simp [h1, this]

theorem inodeOk_clo (A : Option Addr) (c : Nat) (V : VolD) (hn : V.xs.length <= 10000000) (B : Nat) (e : EntD) (w : World) (h0 : w.cell? ⟨B, 0, none⟩ = some (.int .i64 V.nx)) (h1 : w.cell? ⟨B, 1, none⟩ = some (.slice A V.xs.length c)) (h : VAt w w.heap.size A V.xs.length V.xs) :
  Calls Tryz.prog 143 #[.agg #[.int .i64 e.h, .int .i64 e.i, .string e.s, .int .i64 e.d], .pointer (some ⟨B, 0, none⟩)] w fun r w' => r = .returned (.bool (badE V.xs e)) /\ Below w.heap.size w w' := by
 obtain ⟨eh, ei, es, ed⟩ := e
 have H := Lib.hid h
 have hlt := World.block_lt_of_cell? _ _ h0
 simp only at hlt
 clear h
 by_cases h1' : ed = 1
 ·have Hf := Lib.hid (show badE V.xs ⟨eh, ei, es, ed⟩ = true by unfold badE; simp [h1'])
  subst h1'
  go_enter Tryz.func143, Tryz.ntmps143
  go_wp2
  go_ret
  exact ⟨ret_bool Hf.out.symm, belA (bel0 w) _⟩
 ·have hne : (ed == 1) = false := by simpa using h1'
  have Hf := Lib.hid (show badE V.xs ⟨eh, ei, es, ed⟩ = decide (plc V.xs ed < 0) by unfold badE; simp [h1'])
  clear h1'
  go_enter Tryz.func143, Tryz.ntmps143
  go_wp2_with fail
  refine (at_impl (.agg #[.int .i64 V.nx, .slice A V.xs.length c]) V hn ed _ ⟨A, c, rfl, H.out.next (belA (bel0 w) _)⟩).mono ?_
  rintro r w1 ⟨rfl, hb1⟩
  go_wp2
  go_ret
  exact ⟨ret_bool (by rw [Hf.out]), belN (belA (bel0 w) _) hb1⟩

theorem v_all {V : VolD} (sm : szV V <= 1048576) : (allIds V.xs).length <= 10000000 := by
 have h : ∀ xs : List InoD, (allIds xs).length <= (xs.map szI).sum := by
  intro xs
  unfold allIds
  induction xs with
  | nil => simp
  | cons x xs ih =>
   rw [List.flatMap_cons, List.length_append, List.length_map, List.map_cons, List.sum_cons]
   have := szS_n x.es
   unfold szI at *; omega
 have := h V.xs
 unfold szV szIs at sm; omega
theorem v_names {V : VolD} (sm : szV V <= 1048576) {x : InoD} (hx : x ∈ V.xs) : ∀ e ∈ x.es, e.s.size <= 2000000 := fun e he => by
 have h1 := szIs_mem V.xs x hx
 have h2 := szS_mem x.es e he
 unfold szV at sm; unfold szI at h1; omega
theorem v_text {V : VolD} (sm : szV V <= 1048576) {x : InoD} (hx : x ∈ V.xs) : x.s.size <= 2000000 := by
 have h1 := szIs_mem V.xs x hx
 unfold szV at sm; unfold szI at h1; omega
theorem ino_file {xs : List InoD} {x : InoD} (h : x.kd = 1) : inoOkB xs x = (decide (x.es.length = 0) && decide (x.s.size <= 20) && decide (x.ln = (linksN xs x.id : Int))) := by unfold inoOkB; rw [if_pos h]
theorem ino_else {xs : List InoD} {x : InoD} (h : x.kd ≠ 1) : inoOkB xs x = (decide (x.kd = 2) && decide (x.s.size = 0) && decide (x.ln = 1) && dirOkB x.es && (decide (x.id = 1) || decide (linksN xs x.id = 1)) && x.es.all (fun e => decide (e.d ≠ 1) && decide (0 <= plc xs e.d))) := by unfold inoOkB; rw [if_neg h]

theorem inodeOk_impl (v : Value) (V : VolD) (sm : szV V <= 1048576) (x : InoD) (hx : x ∈ V.xs) (A' : Option Addr) (c' : Nat) (w : World) (hT : Tab w) (h : IsVol w v V) (hrow : Reads w w.heap.size 4 A' x.es.length (ES x.es)) :
  Calls Tryz.prog 96 #[v, .agg #[.int .i64 x.id, .int .i64 x.kd, .int .i64 x.ln, .string x.s, .slice A' x.es.length c']] w fun e w' => e = .returned (.bool (inoOkB V.xs x)) /\ Below w.heap.size w w' := by
 have Hl := Lib.hid (fun W hW => links_impl v V (v_len sm) (v_all sm) (v_rows sm) x.id W hW)
 have hv := Lib.hid h
 have hn := v_len sm
 have Hnm := Lib.hid (v_names sm hx)
 have htx := v_text sm hx
 have HT := Lib.hid hT
 have hrl : x.es.length <= 10000000 := v_rows sm x hx
 obtain ⟨A, c, rfl, h⟩ := h
 obtain ⟨nx, xs⟩ := V
 simp only at h hn Hl ⊢
 have H := Lib.hid h
 clear h hT sm hx
 obtain ⟨xi, xk, xl, xt, es⟩ := x
 simp only at hrow Hnm htx hrl Hl ⊢
 have Hrow := Lib.hid hrow
 clear hrow
 obtain ⟨m, hm⟩ : ∃ m, es.length = m := ⟨_, rfl⟩
 have HM := Lib.hid hm
 rw [hm] at Hrow hrl ⊢
 clear hm
 obtain ⟨W2, hW2⟩ : ∃ W2, (w.alloc (.cells #[.int .i64 nx, .slice A xs.length c] 26)).alloc (.cells #[.int .i64 xi, .int .i64 xk, .int .i64 xl, .string xt, .slice A' m c'] 36) = W2 := ⟨_, rfl⟩
 have B2 : Below w.heap.size w W2 := by rw [<- hW2]; exact belA (belA (bel0 w) _) _
 have S2 : W2.heap.size = w.heap.size + 2 := by rw [<- hW2]; simp
 have hV : Blk W2 w.heap.size 26 #[.int .i64 nx, .slice A xs.length c] := by rw [<- hW2]; exact (Blk.new' _ _ _ _ rfl).alloc _
 have hI : Blk W2 (w.heap.size + 1) 36 #[.int .i64 xi, .int .i64 xk, .int .i64 xl, .string xt, .slice A' m c'] := by rw [<- hW2]; exact Blk.new' _ _ _ _ (by simp)
 have HW2 := Lib.hid hW2
 have V0 := Lib.hid (hV.get 0 rfl)
 have V1 := Lib.hid (hV.get 1 rfl)
 have I0 := Lib.hid (hI.get 0 rfl)
 have I1 := Lib.hid (hI.get 1 rfl)
 have I2 := Lib.hid (hI.get 2 rfl)
 have I3 := Lib.hid (hI.get 3 rfl)
 have I4 := Lib.hid (hI.get 4 rfl)
 have Hrow2 := Lib.hid ((Hrow.out.below B2).more B2.size)
 clear hW2 hV hI Hrow
 by_cases hk1 : xk = 1
 ·subst hk1
  have Hf := Lib.hid (ino_file (xs := xs) (x := ⟨xi, 1, xl, xt, es⟩) rfl)
  simp only [HM.out] at Hf
  by_cases h0 : m = 0
  ·subst h0
   by_cases h20 : xt.size <= 20
   ·have h20' : ((xt.size : Int) <= 20) := by omega
    have Hf2 := Lib.hid (show inoOkB xs ⟨xi, 1, xl, xt, es⟩ = (xl == (linksN xs xi : Int)) by rw [Hf.out]; simp [h20]; rfl)
    go_enter Tryz.func96, Tryz.ntmps96
    go_wp2_with fail
    rw [HW2.out]
    have v0 := V0.out
    have v1 := V1.out
    have i0 := I0.out
    have i2 := I2.out
    have i3 := I3.out
    have i4 := I4.out
    go_region_held3 (fun w' => w'.cell? ⟨w.heap.size, 0, none⟩ = some (.int .i64 nx) /\ w'.cell? ⟨w.heap.size, 1, none⟩ = some (.slice A xs.length c) /\ w'.cell? ⟨w.heap.size + 1, 0, none⟩ = some (.int .i64 xi) /\ w'.cell? ⟨w.heap.size + 1, 2, none⟩ = some (.int .i64 xl) /\ w'.cell? ⟨w.heap.size + 1, 3, none⟩ = some (.string xt) /\ w'.cell? ⟨w.heap.size + 1, 4, none⟩ = some (.slice A' 0 c'))
     (first | go_keep | (refine ⟨keep1 hb5 ?_, keep1 hb5 ?_, keep1 hb5 ?_, keep1 hb5 ?_, keep1 hb5 ?_, keep1 hb5 ?_⟩ <;> go_keep))
     (first | (go_at_call 142; refine (Hl.out _ (hv.out.next B2.drew)).mono ?_; rintro e w5 ⟨rfl, hb5⟩))
    go_wp2
    go_ret
    exact ⟨ret_bool Hf2.out.symm, belN B2.drew hb5⟩
   ·have h20' : decide ((xt.size : Int) <= 20) = false := by simp; omega
    have Hf2 := Lib.hid (show inoOkB xs ⟨xi, 1, xl, xt, es⟩ = false by rw [Hf.out]; simp [h20])
    go_enter Tryz.func96, Tryz.ntmps96
    go_wp2_with fail
    rw [HW2.out]
    have i3 := I3.out
    have i4 := I4.out
    go_quiet (fail)
    go_wp2
    go_ret
    exact ⟨ret_bool Hf2.out.symm, below_drewN B2 _⟩
  ·have h0' : ((m : Int) == 0) = false := by simp; omega
   have Hf2 := Lib.hid (show inoOkB xs ⟨xi, 1, xl, xt, es⟩ = false by rw [Hf.out]; simp [h0])
   go_enter Tryz.func96, Tryz.ntmps96
   go_wp2_with fail
   rw [HW2.out]
   have i4 := I4.out
   go_quiet (fail)
   go_wp2
   go_ret
   exact ⟨ret_bool Hf2.out.symm, below_drewN B2 _⟩
 ·have hk1' : (xk == 1) = false := by simpa using hk1
  have Hf := Lib.hid (ino_else (xs := xs) (x := ⟨xi, xk, xl, xt, es⟩) hk1)
  simp only at Hf
  by_cases hk2 : xk = 2
  rotate_left
  ·have hk2' : (xk != 2) = true := by simpa using hk2
   have Hf2 := Lib.hid (show inoOkB xs ⟨xi, xk, xl, xt, es⟩ = false by rw [Hf.out]; simp [hk2])
   clear hk1 hk2
   go_enter Tryz.func96, Tryz.ntmps96
   go_wp2
   go_ret
   exact ⟨ret_bool Hf2.out.symm, belA (belA (bel0 w) _) _⟩
  subst hk2
  clear hk1 hk1'
  by_cases ht : xt.size = 0
  rotate_left
  ·have hne := not_empty xt (by omega)
   have Hf2 := Lib.hid (show inoOkB xs ⟨xi, 2, xl, xt, es⟩ = false by rw [Hf.out]; simp [ht])
   go_enter Tryz.func96, Tryz.ntmps96
   go_wp2
   go_ret
   exact ⟨ret_bool Hf2.out.symm, belA (belA (bel0 w) _) _⟩
  have htn : xt = ⟨#[]⟩ := bytes_ext (by
   have := size_list xt
   rw [ht] at this
   rw [List.eq_nil_of_length_eq_zero this])
  subst htn
  by_cases hl1 : xl = 1
  rotate_left
  ·have hl1' : (xl != 1) = true := by simpa using hl1
   have Hf2 := Lib.hid (show inoOkB xs ⟨xi, 2, xl, ⟨#[]⟩, es⟩ = false by rw [Hf.out]; simp [hl1])
   clear hl1
   go_enter Tryz.func96, Tryz.ntmps96
   go_wp2
   go_ret
   exact ⟨ret_bool Hf2.out.symm, belA (belA (bel0 w) _) _⟩
  subst hl1
  rcases hok : dirOkB es with _ | _
  ·have Hok := Lib.hid hok
   have Hf2 := Lib.hid (show inoOkB xs ⟨xi, 2, 1, ⟨#[]⟩, es⟩ = false by rw [Hf.out]; simp [hok])
   clear hok
   go_enter Tryz.func96, Tryz.ntmps96
   go_wp2_with fail
   rw [HW2.out]
   refine (dirOk_impl A' m c' es Hnm.out _ (HT.out.bl B2) (by omega) Hrow2.out).mono ?_
   rintro e w3 ⟨rfl, hb3⟩
   rw [Hok.out]
   go_wp2
   go_ret
   exact ⟨ret_bool Hf2.out.symm, belN B2 hb3⟩
  have Hok := Lib.hid hok
  have Hf3 := Lib.hid (show inoOkB xs ⟨xi, 2, 1, ⟨#[]⟩, es⟩ = ((decide (xi = 1) || decide (linksN xs xi = 1)) && !es.any (badE xs)) by rw [Hf.out, badE_any, show decide ((⟨#[]⟩ : ByteArray).size = 0) = true from rfl]; simp [hok])
  clear hok
  have hcl : ∀ w5, Below W2.heap.size W2 w5 -> ∀ W, Below w5.heap.size w5 W -> ∀ e ∈ es, Calls Tryz.prog 143 #[.agg #[.int .i64 e.h, .int .i64 e.i, .string e.s, .int .i64 e.d], .pointer (some ⟨w.heap.size, 0, none⟩)] W fun r w' => r = .returned (.bool (badE xs e)) /\ Below W.heap.size W w' := by
   intro w5 h5 W hW e _
   exact inodeOk_clo A c ⟨nx, xs⟩ hn w.heap.size e W (kp_ (h5.trans (hW.mono h5.size)) V0.out) (kp_ (h5.trans (hW.mono h5.size)) V1.out) (H.out.next (belN (belN B2 h5) hW))
  have Hcl := Lib.hid fun w5 (h5 : Below W2.heap.size W2 w5) => containsFunc_ino (badE xs) (.pointer (some ⟨w.heap.size, 0, none⟩)) A' m c' es (by omega) w5 ((Hrow2.out.below h5).more h5.size) (hcl w5 h5)
  clear hcl
  have hmf : ∀ (fn : Fn) (first cap : Array Value) (w : World), (Instr.makeFunc fn first cap).run Tryz.prog w = .ok (.func fn first cap) w := fun _ _ _ _ => rfl
  by_cases hx1 : xi = 1
  ·subst hx1
   have Hf4 := Lib.hid (show inoOkB xs ⟨1, 2, 1, ⟨#[]⟩, es⟩ = !es.any (badE xs) by rw [Hf3.out]; simp)
   go_enter Tryz.func96, Tryz.ntmps96
   go_wp2_with fail
   rw [HW2.out]
   refine (dirOk_impl A' m c' es Hnm.out _ (HT.out.bl B2) (by omega) Hrow2.out).mono ?_
   rintro e w3 ⟨rfl, hb3⟩
   rw [Hok.out]
   have i0 := kp_ hb3 I0.out
   have i4 := kp_ hb3 I4.out
   go_wp2_with fail
   refine (Hcl.out _ hb3).mono ?_
   rintro e w4 ⟨rfl, hb4⟩
   clear i0 i4
   go_wp2
   go_ret
   exact ⟨ret_bool Hf4.out.symm, belN (belN B2 hb3) hb4⟩
  ·have hx1' : (xi != 1) = true := by simpa using hx1
   by_cases hlk : linksN xs xi = 1
   ·have hlk' : ((linksN xs xi : Int) != 1) = false := by simp; omega
    have Hf4 := Lib.hid (show inoOkB xs ⟨xi, 2, 1, ⟨#[]⟩, es⟩ = !es.any (badE xs) by rw [Hf3.out]; simp [hlk])
    clear hx1 hlk
    go_enter Tryz.func96, Tryz.ntmps96
    go_wp2_with fail
    rw [HW2.out]
    refine (dirOk_impl A' m c' es Hnm.out _ (HT.out.bl B2) (by omega) Hrow2.out).mono ?_
    rintro e w3 ⟨rfl, hb3⟩
    rw [Hok.out]
    have i0 := kp_ hb3 I0.out
    have v0 := kp_ hb3 V0.out
    have v1 := kp_ hb3 V1.out
    go_wp2_with fail
    refine (Hl.out _ (hv.out.next (belN B2 hb3))).mono ?_
    rintro e w5 ⟨rfl, hb5⟩
    have b5 := hb3.trans (hb5.mono hb3.size)
    have i4 := kp_ b5 I4.out
    clear i0 v0 v1
    go_wp2_with fail
    refine (Hcl.out _ b5).mono ?_
    rintro e w4 ⟨rfl, hb4⟩
    clear i4
    go_wp2
    go_ret
    exact ⟨ret_bool Hf4.out.symm, belN (belN B2 b5) hb4⟩
   ·have hlk' : ((linksN xs xi : Int) != 1) = true := by simp; omega
    have Hf4 := Lib.hid (show inoOkB xs ⟨xi, 2, 1, ⟨#[]⟩, es⟩ = false by rw [Hf3.out]; simp [hlk, hx1])
    clear hx1 hlk
    go_enter Tryz.func96, Tryz.ntmps96
    go_wp2_with fail
    rw [HW2.out]
    refine (dirOk_impl A' m c' es Hnm.out _ (HT.out.bl B2) (by omega) Hrow2.out).mono ?_
    rintro e w3 ⟨rfl, hb3⟩
    rw [Hok.out]
    have i0 := kp_ hb3 I0.out
    have v0 := kp_ hb3 V0.out
    have v1 := kp_ hb3 V1.out
    go_wp2_with fail
    refine (Hl.out _ (hv.out.next (belN B2 hb3))).mono ?_
    rintro e w5 ⟨rfl, hb5⟩
    clear i0 v0 v1
    go_wp2
    go_ret
    exact ⟨ret_bool Hf4.out.symm, belN (belN B2 hb3) hb5⟩

theorem badE_take {xs : List InoD} {es : List EntD} {k : Nat} (hk : k < es.length) : (es.take (k + 1)).any (badE xs) = ((es.take k).any (badE xs) || badE xs es[k]) := by
 rw [List.take_succ_eq_append_getElem hk, List.any_append]; simp

theorem inodeOk_spec (v : Value) (V : VolD) (sm : szV V <= 1048576) (x : InoD) (hx : x ∈ V.xs) (A' : Option Addr) (c' : Nat) (w : World) (h : IsVol w v V) (hrow : Reads w w.heap.size 4 A' x.es.length (ES x.es)) :
  Calls Tryz.prog 57 #[v, .agg #[.int .i64 x.id, .int .i64 x.kd, .int .i64 x.ln, .string x.s, .slice A' x.es.length c']] w fun e w' => e = .returned (.bool (inoOkB V.xs x)) /\ Below w.heap.size w w' := by
 have Hl := Lib.hid (fun W hW => l6Named_any v V (v_len sm) (v_all sm) (v_rows sm) x.id W hW)
 have Hat := Lib.hid (fun a W hW => l6At_any v V (v_len sm) a W hW)
 have hv := Lib.hid h
 have hn := v_len sm
 have Hnm := Lib.hid (v_names sm hx)
 have htx := v_text sm hx
 have hrl : x.es.length <= 10000000 := v_rows sm x hx
 obtain ⟨A, c, rfl, h⟩ := h
 obtain ⟨nx, xs⟩ := V
 simp only at h hn Hl Hat ⊢
 have H := Lib.hid h
 clear h sm hx
 obtain ⟨xi, xk, xl, xt, es⟩ := x
 simp only at hrow Hnm htx hrl Hl ⊢
 have Hrow := Lib.hid hrow
 clear hrow
 obtain ⟨m, hm⟩ : ∃ m, es.length = m := ⟨_, rfl⟩
 have HM := Lib.hid hm
 rw [hm] at Hrow hrl ⊢
 clear hm
 obtain ⟨W2, hW2⟩ : ∃ W2, (w.alloc (.cells #[.int .i64 nx, .slice A xs.length c] 26)).alloc (.cells #[.int .i64 xi, .int .i64 xk, .int .i64 xl, .string xt, .slice A' m c'] 36) = W2 := ⟨_, rfl⟩
 have B2 : Below w.heap.size w W2 := by rw [<- hW2]; exact belA (belA (bel0 w) _) _
 have S2 : W2.heap.size = w.heap.size + 2 := by rw [<- hW2]; simp
 have hV : Blk W2 w.heap.size 26 #[.int .i64 nx, .slice A xs.length c] := by rw [<- hW2]; exact (Blk.new' _ _ _ _ rfl).alloc _
 have hI : Blk W2 (w.heap.size + 1) 36 #[.int .i64 xi, .int .i64 xk, .int .i64 xl, .string xt, .slice A' m c'] := by rw [<- hW2]; exact Blk.new' _ _ _ _ (by simp)
 have HW2 := Lib.hid hW2
 have V0 := Lib.hid (hV.get 0 rfl)
 have V1 := Lib.hid (hV.get 1 rfl)
 have I0 := Lib.hid (hI.get 0 rfl)
 have I2 := Lib.hid (hI.get 2 rfl)
 have I3 := Lib.hid (hI.get 3 rfl)
 have I4 := Lib.hid (hI.get 4 rfl)
 have Hrow2 := Lib.hid ((Hrow.out.below B2).more B2.size)
 clear hW2 hV hI Hrow
 by_cases hk1 : xk = 1
 ·subst hk1
  have Hf := Lib.hid (ino_file (xs := xs) (x := ⟨xi, 1, xl, xt, es⟩) rfl)
  simp only [HM.out] at Hf
  by_cases h0 : m = 0
  ·subst h0
   by_cases h20 : xt.size <= 20
   ·have h20' : ((xt.size : Int) <= 20) := by omega
    have Hf2 := Lib.hid (show inoOkB xs ⟨xi, 1, xl, xt, es⟩ = (xl == (linksN xs xi : Int)) by rw [Hf.out]; simp [h20]; rfl)
    go_enter Tryz.func57, Tryz.ntmps57
    go_wp2_with fail
    rw [HW2.out]
    have v0 := V0.out
    have v1 := V1.out
    have i0 := I0.out
    have i2 := I2.out
    have i3 := I3.out
    have i4 := I4.out
    go_region_held3 (fun w' => w'.cell? ⟨w.heap.size, 0, none⟩ = some (.int .i64 nx) /\ w'.cell? ⟨w.heap.size, 1, none⟩ = some (.slice A xs.length c) /\ w'.cell? ⟨w.heap.size + 1, 0, none⟩ = some (.int .i64 xi) /\ w'.cell? ⟨w.heap.size + 1, 2, none⟩ = some (.int .i64 xl) /\ w'.cell? ⟨w.heap.size + 1, 3, none⟩ = some (.string xt) /\ w'.cell? ⟨w.heap.size + 1, 4, none⟩ = some (.slice A' 0 c'))
     (first | go_keep | (refine ⟨keep1 hb5 ?_, keep1 hb5 ?_, keep1 hb5 ?_, keep1 hb5 ?_, keep1 hb5 ?_, keep1 hb5 ?_⟩ <;> go_keep))
     (first | (go_at_call 94; refine (Hl.out _ (hv.out.next B2.drew)).mono ?_; rintro e w5 ⟨rfl, hb5⟩))
    go_wp2
    go_ret
    exact ⟨ret_bool Hf2.out.symm, belN B2.drew hb5⟩
   ·have h20' : decide ((xt.size : Int) <= 20) = false := by simp; omega
    have Hf2 := Lib.hid (show inoOkB xs ⟨xi, 1, xl, xt, es⟩ = false by rw [Hf.out]; simp [h20])
    go_enter Tryz.func57, Tryz.ntmps57
    go_wp2_with fail
    rw [HW2.out]
    have i3 := I3.out
    have i4 := I4.out
    go_quiet (fail)
    go_wp2
    go_ret
    exact ⟨ret_bool Hf2.out.symm, below_drewN B2 _⟩
  ·have h0' : ((m : Int) == 0) = false := by simp; omega
   have Hf2 := Lib.hid (show inoOkB xs ⟨xi, 1, xl, xt, es⟩ = false by rw [Hf.out]; simp [h0])
   go_enter Tryz.func57, Tryz.ntmps57
   go_wp2_with fail
   rw [HW2.out]
   have i4 := I4.out
   go_quiet (fail)
   go_wp2
   go_ret
   exact ⟨ret_bool Hf2.out.symm, below_drewN B2 _⟩
 ·have hk1' : (xk == 1) = false := by simpa using hk1
  have Hf := Lib.hid (ino_else (xs := xs) (x := ⟨xi, xk, xl, xt, es⟩) hk1)
  simp only at Hf
  by_cases hk2 : xk = 2
  rotate_left
  ·have hk2' : (xk == 2) = false := by simpa using hk2
   have Hf2 := Lib.hid (show inoOkB xs ⟨xi, xk, xl, xt, es⟩ = false by rw [Hf.out]; simp [hk2])
   clear hk1 hk2
   go_enter Tryz.func57, Tryz.ntmps57
   go_wp2
   go_ret
   exact ⟨ret_bool Hf2.out.symm, belA (belA (bel0 w) _) _⟩
  subst hk2
  clear hk1 hk1'
  by_cases ht : xt.size = 0
  rotate_left
  ·have hne := not_empty xt (by omega)
   have Hf2 := Lib.hid (show inoOkB xs ⟨xi, 2, xl, xt, es⟩ = false by rw [Hf.out]; simp [ht])
   go_enter Tryz.func57, Tryz.ntmps57
   go_wp2
   go_ret
   exact ⟨ret_bool Hf2.out.symm, belA (belA (bel0 w) _) _⟩
  have htn : xt = ⟨#[]⟩ := bytes_ext (by
   have := size_list xt
   rw [ht] at this
   rw [List.eq_nil_of_length_eq_zero this])
  subst htn
  by_cases hl1 : xl = 1
  rotate_left
  ·have hl1' : (xl != 1) = true := by simpa using hl1
   have Hf2 := Lib.hid (show inoOkB xs ⟨xi, 2, xl, ⟨#[]⟩, es⟩ = false by rw [Hf.out]; simp [hl1])
   clear hl1
   go_enter Tryz.func57, Tryz.ntmps57
   go_wp2
   go_ret
   exact ⟨ret_bool Hf2.out.symm, belA (belA (bel0 w) _) _⟩
  subst hl1
  rcases hok : dirOkB es with _ | _
  ·have Hok := Lib.hid hok
   have Hf2 := Lib.hid (show inoOkB xs ⟨xi, 2, 1, ⟨#[]⟩, es⟩ = false by rw [Hf.out]; simp [hok])
   clear hok
   go_enter Tryz.func57, Tryz.ntmps57
   go_wp2_with fail
   rw [HW2.out]
   refine (dirOk_spec A' m c' es Hnm.out _ (by omega) Hrow2.out).mono ?_
   rintro e w3 ⟨rfl, hb3⟩
   rw [Hok.out]
   go_wp2
   go_ret
   exact ⟨ret_bool Hf2.out.symm, belN B2 hb3⟩
  have Hok := Lib.hid hok
  have Hf3 := Lib.hid (show inoOkB xs ⟨xi, 2, 1, ⟨#[]⟩, es⟩ = ((decide (xi = 1) || decide (linksN xs xi = 1)) && !es.any (badE xs)) by rw [Hf.out, badE_any, show decide ((⟨#[]⟩ : ByteArray).size = 0) = true from rfl]; simp [hok])
  clear hok
  by_cases hlk : xi ≠ 1 /\ linksN xs xi ≠ 1
  ·have hx1' : (xi != 1) = true := by simpa using hlk.1
   have hlk' : ((linksN xs xi : Int) != 1) = true := by simp; omega
   have Hf4 := Lib.hid (show inoOkB xs ⟨xi, 2, 1, ⟨#[]⟩, es⟩ = false by rw [Hf3.out]; simp [hlk.1, hlk.2])
   clear hlk
   go_enter Tryz.func57, Tryz.ntmps57
   go_wp2_with fail
   rw [HW2.out]
   refine (dirOk_spec A' m c' es Hnm.out _ (by omega) Hrow2.out).mono ?_
   rintro e w3 ⟨rfl, hb3⟩
   rw [Hok.out]
   have i0 := kp_ hb3 I0.out
   have v0 := kp_ hb3 V0.out
   have v1 := kp_ hb3 V1.out
   go_wp2_with fail
   refine (Hl.out _ (hv.out.next (belN B2 hb3))).mono ?_
   rintro e w5 ⟨rfl, hb5⟩
   clear i0 v0 v1
   go_wp2
   go_ret
   exact ⟨ret_bool Hf4.out.symm, belN (belN B2 hb3) hb5⟩
  ·have Hf4 := Lib.hid (show inoOkB xs ⟨xi, 2, 1, ⟨#[]⟩, es⟩ = !es.any (badE xs) by
    rw [Hf3.out]
    by_cases hx1 : xi = 1
    ·simp [hx1]
    ·have : linksN xs xi = 1 := Decidable.byContradiction fun h => hlk ⟨hx1, h⟩
     simp [this])
   have hlk' : xi ≠ 1 -> ((linksN xs xi : Int) != 1) = false := fun h => by
    have : linksN xs xi = 1 := Decidable.byContradiction fun h' => hlk ⟨h, h'⟩
    rw [this]; rfl
   have Hlk := Lib.hid hlk'
   clear hlk hlk'
   have fin : ∀ (w5 : World), Below W2.heap.size W2 w5 -> True := fun _ _ => trivial
   clear fin
   go_enter Tryz.func57, Tryz.ntmps57
   go_wp2_with fail
   rw [HW2.out]
   refine (dirOk_spec A' m c' es Hnm.out _ (by omega) Hrow2.out).mono ?_
   rintro e w3 ⟨rfl, hb3⟩
   rw [Hok.out]
   have i0 := kp_ hb3 I0.out
   have v0 := kp_ hb3 V0.out
   have v1 := kp_ hb3 V1.out
   have i4 := kp_ hb3 I4.out
   rcases hx1 : (xi != 1) with _ | _
   ·go_wp2
    have B5 := belN B2 hb3
    clear i0 v0 v1 i4
    go_loopw [5] (fun i wr => ∃ (k : Nat), k <= m /\ i = .int .i64 k /\ Hid ((es.take k).any (badE xs) = false) /\ Below w3.heap.size w3 wr)
     (fun i _ => m - (intOf i).toNat)
    case atStart => exact ⟨0, by omega, rfl, by simp [Hid], bel0 w3⟩
    case round =>
     obtain ⟨k, hk, rfl, hany, hbel⟩ := hrel
     have b6 : Below W2.heap.size W2 wr := Below.trans hb3 (hbel.mono (Below.size hb3))
     have v0 := kp_ b6 V0.out
     have v1 := kp_ b6 V1.out
     have i4 := kp_ b6 I4.out
     by_cases hlt : k < m
     ·obtain ⟨hkx, b, o, rfl, hadb, y0, y1, y2, y3⟩ := reads_ent (Hrow2.out.below b6) hlt
      have q0 : (0 : Int) <= ↑k := by omega
      have q1 : (↑k : Int) < ↑m := by omega
      have Hts := Lib.hid (badE_take (xs := xs) hkx)
      have Hin := Lib.hid (show badE xs es[k] = true -> es.any (badE xs) = true from fun h => List.any_eq_true.2 ⟨_, List.getElem_mem hkx, h⟩)
      obtain ⟨e, he⟩ : ∃ e, es[k] = e := ⟨_, rfl⟩
      rw [he] at y3 Hts Hin
      clear he y0 y1 y2
      obtain ⟨eh, ei, e3, ed⟩ := e
      simp only at y3
      by_cases h1 : ed = 1
      ·subst h1
       have Hf5 := Lib.hid (show inoOkB xs ⟨xi, 2, 1, ⟨#[]⟩, es⟩ = false by rw [Hf4.out, Hin.out (by unfold badE; simp)]; rfl)
       go_wp2_with fail
       go_quiet (fail)
       go_wp2
       go_ret
       exact ⟨ret_bool Hf5.out.symm, below_drewN (belN B5 hbel) _⟩
      ·have h1' : (ed == 1) = false := by simpa using h1
       have Hatk := Lib.hid (Hat.out ed _ (hv.out.next (belN B5 hbel).drew))
       have Hb := Lib.hid (show badE xs ⟨eh, ei, e3, ed⟩ = decide (plc xs ed < 0) by unfold badE; simp [h1])
       obtain ⟨p, hp⟩ : ∃ p, plc xs ed = p := ⟨_, rfl⟩
       simp only [hp] at Hatk Hb
       clear hp h1
       go_wp2_with fail
       go_region_held3 (fun w' => w'.cell? ⟨w.heap.size, 0, none⟩ = some (.int .i64 nx) /\ w'.cell? ⟨w.heap.size, 1, none⟩ = some (.slice A xs.length c) /\ w'.cell? ⟨w.heap.size + 1, 4, none⟩ = some (.slice (some ⟨b, o, none⟩) m c') /\ w'.cell? ⟨b, o + k * 4 + 3, none⟩ = some (.int .i64 ed))
        (first | go_keep | (refine ⟨keep1 hb7 ?_, keep1 hb7 ?_, keep1 hb7 ?_, keep1 hb7 ?_⟩ <;> go_keep))
        (first | (go_at_call 54; refine Hatk.out.mono ?_; rintro e w7 ⟨rfl, hb7⟩))
       by_cases hp0 : p < 0
       ·have Hf5 := Lib.hid (show inoOkB xs ⟨xi, 2, 1, ⟨#[]⟩, es⟩ = false by rw [Hf4.out, Hin.out (by rw [Hb.out]; simpa using hp0)]; rfl)
        go_wp2
        go_ret
        exact ⟨ret_bool Hf5.out.symm, belN (belN B5 hbel).drew hb7⟩
       ·have Hnx := Lib.hid (show (es.take (k + 1)).any (badE xs) = false by rw [Hts.out, hany.out, Hb.out]; simpa using hp0)
        go_wp2
        go_roundw
        case rel => exact ⟨k + 1, by omega, by go_num, Hnx, hbel.drew.trans (hb7.mono hbel.size)⟩
        case measure => simp [intOf]; omega
     ·have Hf5 := Lib.hid (show inoOkB xs ⟨xi, 2, 1, ⟨#[]⟩, es⟩ = true by
       have h1 := hany.out
       rw [List.take_of_length_le (by have := HM.out; omega)] at h1
       rw [Hf4.out, h1]; rfl)
      go_wp2
      go_ret
      exact ⟨ret_bool Hf5.out.symm, belN B5 hbel⟩
   ·have hl2 := Hlk.out (by simpa using hx1)
    go_wp2_with fail
    refine (Hl.out _ (hv.out.next (belN B2 hb3))).mono ?_
    rintro e w5 ⟨rfl, hb5⟩
    have i45 := kp_ hb5 i4
    clear i0 v0 v1 i4
    go_wp2
    have B5 := belN B2 (hb3.trans (hb5.mono hb3.size))
    clear i45
    go_loopw [5] (fun i wr => ∃ (k : Nat), k <= m /\ i = .int .i64 k /\ Hid ((es.take k).any (badE xs) = false) /\ Below w5.heap.size w5 wr)
     (fun i _ => m - (intOf i).toNat)
    case atStart => exact ⟨0, by omega, rfl, by simp [Hid], bel0 w5⟩
    case round =>
     obtain ⟨k, hk, rfl, hany, hbel⟩ := hrel
     have b6 : Below W2.heap.size W2 wr := Below.trans (hb3.trans (hb5.mono hb3.size)) (hbel.mono (Below.size (hb3.trans (hb5.mono hb3.size))))
     have v0 := kp_ b6 V0.out
     have v1 := kp_ b6 V1.out
     have i4 := kp_ b6 I4.out
     by_cases hlt : k < m
     ·obtain ⟨hkx, b, o, rfl, hadb, y0, y1, y2, y3⟩ := reads_ent (Hrow2.out.below b6) hlt
      have q0 : (0 : Int) <= ↑k := by omega
      have q1 : (↑k : Int) < ↑m := by omega
      have Hts := Lib.hid (badE_take (xs := xs) hkx)
      have Hin := Lib.hid (show badE xs es[k] = true -> es.any (badE xs) = true from fun h => List.any_eq_true.2 ⟨_, List.getElem_mem hkx, h⟩)
      obtain ⟨e, he⟩ : ∃ e, es[k] = e := ⟨_, rfl⟩
      rw [he] at y3 Hts Hin
      clear he y0 y1 y2
      obtain ⟨eh, ei, e3, ed⟩ := e
      simp only at y3
      by_cases h1 : ed = 1
      ·subst h1
       have Hf5 := Lib.hid (show inoOkB xs ⟨xi, 2, 1, ⟨#[]⟩, es⟩ = false by rw [Hf4.out, Hin.out (by unfold badE; simp)]; rfl)
       go_wp2_with fail
       go_quiet (fail)
       go_wp2
       go_ret
       exact ⟨ret_bool Hf5.out.symm, below_drewN (belN B5 hbel) _⟩
      ·have h1' : (ed == 1) = false := by simpa using h1
       have Hatk := Lib.hid (Hat.out ed _ (hv.out.next (belN B5 hbel).drew))
       have Hb := Lib.hid (show badE xs ⟨eh, ei, e3, ed⟩ = decide (plc xs ed < 0) by unfold badE; simp [h1])
       obtain ⟨p, hp⟩ : ∃ p, plc xs ed = p := ⟨_, rfl⟩
       simp only [hp] at Hatk Hb
       clear hp h1
       go_wp2_with fail
       go_region_held3 (fun w' => w'.cell? ⟨w.heap.size, 0, none⟩ = some (.int .i64 nx) /\ w'.cell? ⟨w.heap.size, 1, none⟩ = some (.slice A xs.length c) /\ w'.cell? ⟨w.heap.size + 1, 4, none⟩ = some (.slice (some ⟨b, o, none⟩) m c') /\ w'.cell? ⟨b, o + k * 4 + 3, none⟩ = some (.int .i64 ed))
        (first | go_keep | (refine ⟨keep1 hb7 ?_, keep1 hb7 ?_, keep1 hb7 ?_, keep1 hb7 ?_⟩ <;> go_keep))
        (first | (go_at_call 54; refine Hatk.out.mono ?_; rintro e w7 ⟨rfl, hb7⟩))
       by_cases hp0 : p < 0
       ·have Hf5 := Lib.hid (show inoOkB xs ⟨xi, 2, 1, ⟨#[]⟩, es⟩ = false by rw [Hf4.out, Hin.out (by rw [Hb.out]; simpa using hp0)]; rfl)
        go_wp2
        go_ret
        exact ⟨ret_bool Hf5.out.symm, belN (belN B5 hbel).drew hb7⟩
       ·have Hnx := Lib.hid (show (es.take (k + 1)).any (badE xs) = false by rw [Hts.out, hany.out, Hb.out]; simpa using hp0)
        go_wp2
        go_roundw
        case rel => exact ⟨k + 1, by omega, by go_num, Hnx, hbel.drew.trans (hb7.mono hbel.size)⟩
        case measure => simp [intOf]; omega
     ·have Hf5 := Lib.hid (show inoOkB xs ⟨xi, 2, 1, ⟨#[]⟩, es⟩ = true by
       have h1 := hany.out
       rw [List.take_of_length_le (by have := HM.out; omega)] at h1
       rw [Hf4.out, h1]; rfl)
      go_wp2
      go_ret
      exact ⟨ret_bool Hf5.out.symm, belN B5 hbel⟩

end Go.Proofs.YtjjniapamdleoaaGreatDoor
