/- The program's Walk. -/
import Derived.Test.YtjjniapamdleoaaGreatDoorRCLook2
import Derived.Test.YtjjniapamdleoaaGreatDoorRCPath
import Derived.Deep.Cut
import Derived.Deep.CutRange
import Derived.Test.YtjjniapamdleoaaGreatDoorRCCpV
import Derived.Test.YtjjniapamdleoaaGreatDoorRCVolOk
namespace Go.Proofs.YtjjniapamdleoaaGreatDoor
open Go Go.RowKit
set_option maxHeartbeats 8000000
set_option maxRecDepth 100000

theorem name_size {s : ByteArray} (h : nameOkB s = true) : s.size <= 24 := by
 unfold nameOkB at h
 split at h
 ·cases h
 ·simp [inI] at h; omega

theorem sp_names {s t : ByteArray} (h : t ∈ (spB s).1) : nameOkB t = true := by
 unfold spB at h
 split at h
 ·split at h
  ·rename_i h2; exact List.all_eq_true.1 h2 t h
  ·cases h
 ·cases h
theorem sp_len (s : ByteArray) : (spB s).1.length <= 1000 := by
 unfold spB
 split
 ·rename_i h
  split
  ·have h1 : s.size <= 200 := by have := h.1; simp [inI] at this; omega
   simp only [List.length_map]
   have h2 := foldl_len (splitL 47 s.data.toList) []
   have h3 := splitL_len 47 s.data.toList
   have h4 : s.data.toList.length = s.size := size_list s
   unfold pathL
   simp only [List.length_nil] at h2
   omega
  ·simp
 ·simp

theorem hasTo_no (w : World) : Calls Tryz.prog 188 #[.int .i64 8] w fun e w' => e = .returned (.bool false) /\ w' = w := by
 go_enter Tryz.func188, Tryz.ntmps188
 go_wp2
 go_ret
 exact ⟨rfl, rfl⟩

/-- What begun gives of a look. -/
def bgP (xs : List InoD) (a : Int) : Int := if plc xs a < 0 then 2 else match xs[(plc xs a).toNat]? with | none => 2 | some x => if x.kd = 2 then 0 else 4
theorem bg_none {xs : List InoD} {a : Int} (h : plc xs a = -1) : bgP xs a = 2 := by unfold bgP; rw [if_pos (by omega)]
theorem bg_at {xs : List InoD} {a : Int} {k : Nat} (hk : k < xs.length) (h : plc xs a = (k : Int)) : bgP xs a = if xs[k].kd = 2 then 0 else 4 := by
 unfold bgP; rw [if_neg (by omega), h, Int.toNat_natCast, List.getElem?_eq_getElem hk]

theorem begun_look (v : Value) (V : VolD) (hn : V.xs.length <= 10000000) (a : Int) (s : ByteArray) (hname : nameOkB s = true) (w : World) (hT : Tab w) (hC : IsVolC w v V) :
  Calls Tryz.prog 146 #[v, .agg #[.int .i64 8, .int .i64 a, .string s, .int .i64 0, .string ⟨#[]⟩, .string ⟨#[]⟩]] w fun e w' => e = .returned (.int .i64 (bgP V.xs a)) /\ Below w.heap.size w w' := by
 have hs := name_size hname
 have Hat := Lib.hid (fun W hW => at_impl v V hn a W hW)
 have Hnm := Lib.hid (fun W hW => nameOk_impl s (by omega) W hW)
 simp only [hname] at Hnm
 have hv := Lib.hid hC
 have HT := Lib.hid hT
 have h := hC.is
 obtain ⟨A, c, rfl, h⟩ := h
 obtain ⟨nx, xs⟩ := V
 simp only at Hat h hn ⊢
 have H := Lib.hid h
 clear h hT hC hname
 obtain ⟨n, hn'⟩ : ∃ n, xs.length = n := ⟨_, rfl⟩
 have HL := Lib.hid hn'
 simp only [hn'] at Hat hv H hn ⊢
 clear hn'
 obtain ⟨W1, hW1⟩ : ∃ W1, (w.alloc (.cells #[.int .i64 nx, .slice A n c] 26)).alloc (.cells #[.int .i64 8, .int .i64 a, .string s, .int .i64 0, .string ⟨#[]⟩, .string ⟨#[]⟩] 95) = W1 := ⟨_, rfl⟩
 have B1 : Below w.heap.size w W1 := by rw [<- hW1]; exact belA (belA (bel0 w) _) _
 have hV : Blk W1 w.heap.size 26 #[.int .i64 nx, .slice A n c] := by rw [<- hW1]; exact (Blk.new' _ _ _ _ rfl).alloc _
 have hK : Blk W1 (w.heap.size + 1) 95 #[.int .i64 8, .int .i64 a, .string s, .int .i64 0, .string ⟨#[]⟩, .string ⟨#[]⟩] := by rw [<- hW1]; exact Blk.new' _ _ _ _ (by simp)
 have HW1 := Lib.hid hW1
 have V1 := Lib.hid (hV.get 1 rfl)
 have K0 := Lib.hid (hK.get 0 rfl)
 have K2 := Lib.hid (hK.get 2 rfl)
 clear hW1 hV hK
 rcases plc_cases xs a with ⟨hp, _⟩ | ⟨k, hkx, hp, _⟩
 ·have Hb := Lib.hid (bg_none hp)
  simp only [hp] at Hat
  clear hp
  go_enter Tryz.func146, Tryz.ntmps146
  go_wp2_with fail
  rw [HW1.out]
  refine (Hat.out W1 (hv.out.next B1).is).mono ?_
  rintro e w2 ⟨rfl, hb2⟩
  have k0 := kp_ hb2 K0.out
  go_wp2_with fail
  refine (hasTo_no w2).mono ?_
  rintro e w3 ⟨rfl, h3⟩
  rw [h3]
  clear h3
  go_wp2
  go_ret
  exact ⟨ret_int Hb.out.symm, belN B1 hb2⟩
 ·have Hb := Lib.hid (bg_at hkx hp)
  have hkn : k < n := by have := HL.out; omega
  simp only [hp] at Hat
  clear hp
  have q0 : (0 : Int) <= ↑k := by omega
  have q1 : (↑k : Int) < ↑n := by omega
  by_cases hd : xs[k].kd = 2
  ·have Hb2 := Lib.hid (Hb.out.trans (if_pos hd))
   go_enter Tryz.func146, Tryz.ntmps146
   go_wp2_with fail
   rw [HW1.out]
   refine (Hat.out W1 (hv.out.next B1).is).mono ?_
   rintro e w2 ⟨rfl, hb2⟩
   have k0 := kp_ hb2 K0.out
   have k2 := kp_ hb2 K2.out
   have v1 := kp_ hb2 V1.out
   go_wp2_with fail
   refine (hasTo_no w2).mono ?_
   rintro e w3 ⟨rfl, h3⟩
   rw [h3]
   clear h3 w3
   obtain ⟨_, b, o, A', c', rfl, hadb, z0, z1, z2, z3, z4, hrow⟩ := (H.out.next (belN B1 hb2)).at_ hkn
   rw [hd] at z1
   clear z0 z2 z3 z4 hrow hd
   go_wp2_with fail
   refine (Hnm.out w2 (HT.out.bl (belN B1 hb2))).mono ?_
   rintro e w3 ⟨rfl, hb3⟩
   clear z1 v1 k2
   have k0' := kp_ hb3 k0
   clear k0
   go_wp2_with fail
   refine (hasTo_no w3).mono ?_
   rintro e w4 ⟨rfl, h4⟩
   rw [h4]
   clear h4
   go_wp2
   go_ret
   exact ⟨ret_int Hb2.out.symm, belN (belN B1 hb2) hb3⟩
  ·have Hb2 := Lib.hid (Hb.out.trans (if_neg hd))
   have hd' : (xs[k].kd != 2) = true := by simpa using hd
   go_enter Tryz.func146, Tryz.ntmps146
   go_wp2_with fail
   rw [HW1.out]
   refine (Hat.out W1 (hv.out.next B1).is).mono ?_
   rintro e w2 ⟨rfl, hb2⟩
   have k0 := kp_ hb2 K0.out
   have v1 := kp_ hb2 V1.out
   go_wp2_with fail
   refine (hasTo_no w2).mono ?_
   rintro e w3 ⟨rfl, h3⟩
   rw [h3]
   clear h3 w3
   obtain ⟨_, b, o, A', c', rfl, hadb, z0, z1, z2, z3, z4, hrow⟩ := (H.out.next (belN B1 hb2)).at_ hkn
   clear z0 z2 z3 z4 hrow hd
   go_wp2
   go_ret
   exact ⟨ret_int Hb2.out.symm, belN B1 hb2⟩

/-- What entry gives: the place of what a name leads to. -/
noncomputable def enP (xs : List InoD) (es : List EntD) (s : ByteArray) : Int := match es.find? (fun e => alikeB e.s s) with | none => -1 | some e => plc xs e.d
theorem en_none {xs : List InoD} {es : List EntD} {s : ByteArray} (h : es.find? (fun e => alikeB e.s s) = none) : enP xs es s = -1 := by unfold enP; rw [h]
theorem en_some {xs : List InoD} {es : List EntD} {s : ByteArray} {e : EntD} (h : es.find? (fun e => alikeB e.s s) = some e) : enP xs es s = plc xs e.d := by unfold enP; rw [h]

theorem entry_impl (B : Nat) (A : Option Addr) (c : Nat) (V : VolD) (sm : szV V <= 1048576) (k : Nat) (hk : k < V.xs.length) (hd : dirOkB V.xs[k].es = true) (s : ByteArray) (hs : s.size <= 2000000) (w : World) (hT : Tab w)
  (hB : Blk w B 26 #[.int .i64 V.nx, .slice A V.xs.length c]) (hC : IsVolC w (.agg #[.int .i64 V.nx, .slice A V.xs.length c]) V) :
  Calls Tryz.prog 148 #[.pointer (some ⟨B, 0, none⟩), .int .i64 k, .string s] w fun e w' => e = .returned (.int .i64 (enP V.xs V.xs[k].es s)) /\ Below w.heap.size w w' := by
 have hn := v_len sm
 have Hat := Lib.hid (fun a W hW => at_impl (.agg #[.int .i64 V.nx, .slice A V.xs.length c]) V hn a W hW)
 have Hnm := v_names sm (List.getElem_mem hk)
 have hrn := v_rows sm _ (List.getElem_mem hk)
 have hv := Lib.hid hC
 have HT := Lib.hid hT
 have H := Lib.hid (vol_at hC).2.2.1
 obtain ⟨nx, xs⟩ := V
 simp only at Hat hn hB Hnm hrn hk hd hv H ⊢
 clear hT hC sm
 obtain ⟨es, hes⟩ : ∃ es, xs[k].es = es := ⟨_, rfl⟩
 have HE := Lib.hid hes
 rw [hes] at hd hrn Hnm ⊢
 obtain ⟨n, hn'⟩ : ∃ n, xs.length = n := ⟨_, rfl⟩
 have HL := Lib.hid hn'
 have hkn : k < n := by omega
 rw [hn'] at hB
 simp only [hn'] at Hat hv H hn ⊢
 clear hn' hes
 have q0 : (0 : Int) <= ↑k := by omega
 have q1 : (↑k : Int) < ↑n := by omega
 obtain ⟨b0, b1⟩ := hB.g2
 have ltB := hB.lt
 obtain ⟨_, b, o, A', c', hA, hadb, z0, z1, z2, z3, z4, hrow⟩ := H.out.at_ hkn
 rw [HE.out] at z4 hrow
 subst hA
 obtain ⟨m, hm⟩ : ∃ m, es.length = m := ⟨_, rfl⟩
 have HM := Lib.hid hm
 rw [hm] at z4 hrow hrn
 clear z0 z1 z2 z3 hm
 have Hrow := Lib.hid hrow
 have Hd := Lib.hid hd
 have HN := Lib.hid Hnm
 clear hrow hd Hnm
 go_enter Tryz.func148, Tryz.ntmps148
 go_wp2_with fail
 refine (entAt_impl A' m c' es HN.out (by omega) s hs w HT.out Hrow.out).mono ?_
 rintro e w1 ⟨r, rfl, hat, hb1⟩
 rcases at_idx Hd.out hat with ⟨rfl, hf⟩ | ⟨i, hi, rfl, hf⟩
 ·have Hf := Lib.hid (en_none (xs := xs) hf)
  clear hf hat b0 b1 z4
  go_wp2
  go_ret
  exact ⟨ret_int Hf.out.symm, hb1⟩
 ·have Hf := Lib.hid (en_some (xs := xs) hf)
  have him : i < m := by have := HM.out; omega
  have q2 : (0 : Int) <= ↑i := by omega
  have q3 : (↑i : Int) < ↑m := by omega
  obtain ⟨_, b2, o2, hA', hadb2, y0, y1, y2, y3⟩ := reads_ent (Hrow.out.below hb1) him
  subst hA'
  clear hf hat y0 y1 y2
  have c0 := kp_ hb1 b0
  have c1 := kp_ hb1 b1
  have y4 := kp_ hb1 z4
  clear b0 b1 z4
  have Hat2 := Lib.hid (fun W hW => Hat.out es[i].d W hW)
  go_wp2_with fail
  go_region_held3 (fun w' => w'.cell? ⟨B, 0, none⟩ = some (.int .i64 nx) /\ w'.cell? ⟨B, 1, none⟩ = some (.slice (some ⟨b, o, none⟩) n c) /\ w'.cell? ⟨b, o + k * 5 + 4, none⟩ = some (.slice (some ⟨b2, o2, none⟩) m c') /\ w'.cell? ⟨b2, o2 + i * 4 + 3, none⟩ = some (.int .i64 es[i].d))
   (first | go_keep | (refine ⟨keep1 hb5 ?_, keep1 hb5 ?_, keep1 hb5 ?_, keep1 hb5 ?_⟩ <;> go_keep))
   (first | (go_at_call 47; refine (Hat2.out _ (hv.out.next hb1.drew).is).mono ?_; rintro e w5 ⟨rfl, hb5⟩))
  go_wp2
  go_ret
  exact ⟨ret_int Hf.out.symm, belN hb1.drew hb5⟩

theorem do_look (B : Nat) (A : Option Addr) (c : Nat) (V : VolD) (sm : szV V <= 1048576) (hp : VolP V.nx V.xs) (a : Int) (s : ByteArray) (hname : nameOkB s = true) (w : World) (hT : Tab w)
  (hB : Blk w B 26 #[.int .i64 V.nx, .slice A V.xs.length c]) (hC : IsVolC w (.agg #[.int .i64 V.nx, .slice A V.xs.length c]) V) :
  Calls Tryz.prog 103 #[.pointer (some ⟨B, 0, none⟩), .agg #[.int .i64 8, .int .i64 a, .string s, .int .i64 0, .string ⟨#[]⟩, .string ⟨#[]⟩]] w fun e w' => e = .returned (lkP V.xs a s).val /\ Below w.heap.size w w' := by
 have hn := v_len sm
 have hs := name_size hname
 have Hbg := Lib.hid (fun W hT hW => begun_look (.agg #[.int .i64 V.nx, .slice A V.xs.length c]) V hn a s hname W hT hW)
 have Hat := Lib.hid (fun W hW => at_impl (.agg #[.int .i64 V.nx, .slice A V.xs.length c]) V hn a W hW)
 have Hen := Lib.hid (fun (k : Nat) (hk : k < V.xs.length) hd W hT hB hW => entry_impl B A c V sm k hk hd s (by omega) W hT hB hW)
 have Hnm := Lib.hid (fun x hx => v_names sm (V := V) (x := x) hx)
 have Hrn := Lib.hid (v_rows sm)
 have hv := Lib.hid hC
 have HT := Lib.hid hT
 have H := Lib.hid (vol_at hC).2.2.1
 have HC := Lib.hid (lk_cases hp a s)
 have Hlook := Lib.hid (fun (x : InoD) (hx : x ∈ V.xs) (i : Nat) (hi : i < x.es.length) (hd : dirOkB x.es = true) (hf : x.es.find? (fun e => alikeB e.s s) = some x.es[i]) (A' : Option Addr) (c' : Nat) (W : World) (hT : Tab W) (hr : Reads W W.heap.size 4 A' x.es.length (ES x.es)) => show Calls Tryz.prog 153 #[.slice A' x.es.length c', .string s] W fun e w' => e = .returned (.tuple #[.agg #[.int .i64 x.es[i].h, .int .i64 x.es[i].i, .string x.es[i].s, .int .i64 x.es[i].d], .bool true]) /\ Below W.heap.size W w' from by
  refine (look_impl A' x.es.length c' x.es (v_names sm hx) (by have := v_rows sm x hx; omega) s (by omega) W hT hr).mono ?_
  rintro e w1 ⟨⟨E, fb, h1, h2⟩, hb⟩
  rw [lookP_some hd hf] at h1
  injection h1 with h1 h3
  subst h1 h3
  exact ⟨h2, hb⟩)
 obtain ⟨nx, xs⟩ := V
 simp only at Hbg Hat Hen Hnm Hrn hn hB hv H HC Hlook ⊢
 clear hT hC sm hname hp
 obtain ⟨n, hn'⟩ : ∃ n, xs.length = n := ⟨_, rfl⟩
 have HL := Lib.hid hn'
 rw [hn'] at hB
 simp only [hn'] at Hbg Hat hv H hn
 clear hn'
 obtain ⟨W1, hW1⟩ : ∃ W1, (w.alloc (.cells #[.int .i64 8, .int .i64 a, .string s, .int .i64 0, .string ⟨#[]⟩, .string ⟨#[]⟩] 95)).alloc (.cells #[.int .i64 0, .int .i64 0, .string ⟨#[]⟩, .string ⟨#[]⟩] 54) = W1 := ⟨_, rfl⟩
 have B1 : Below w.heap.size w W1 := by rw [<- hW1]; exact belA (belA (bel0 w) _) _
 have S1 : W1.heap.size = w.heap.size + 2 := by rw [<- hW1]; simp
 have hK : Blk W1 w.heap.size 95 #[.int .i64 8, .int .i64 a, .string s, .int .i64 0, .string ⟨#[]⟩, .string ⟨#[]⟩] := by rw [<- hW1]; exact (Blk.new' _ _ _ _ rfl).alloc _
 have hR : Blk W1 (w.heap.size + 1) 54 #[.int .i64 0, .int .i64 0, .string ⟨#[]⟩, .string ⟨#[]⟩] := by rw [<- hW1]; exact Blk.new' _ _ _ _ (by simp)
 have HW1 := Lib.hid hW1
 have ltB := hB.lt
 have BV := Lib.hid (hB.below B1 ltB)
 have K := Lib.hid hK
 have R := Lib.hid hR
 clear hW1 hK hR hB
 obtain ⟨v0, v1⟩ := BV.out.g2
 obtain ⟨k0, k1, k2, k3, k4, k5⟩ := K.out.g6
 go_enter Tryz.func103, Tryz.ntmps103
 go_wp2_with fail
 rw [HW1.out]
 go_region_held3 (fun w' => w'.cell? ⟨B, 0, none⟩ = some (.int .i64 nx) /\ w'.cell? ⟨B, 1, none⟩ = some (.slice A n c) /\ w'.cell? ⟨w.heap.size, 0, none⟩ = some (.int .i64 8) /\ w'.cell? ⟨w.heap.size, 1, none⟩ = some (.int .i64 a) /\ w'.cell? ⟨w.heap.size, 2, none⟩ = some (.string s) /\ w'.cell? ⟨w.heap.size, 3, none⟩ = some (.int .i64 0) /\ w'.cell? ⟨w.heap.size, 4, none⟩ = some (.string ⟨#[]⟩) /\ w'.cell? ⟨w.heap.size, 5, none⟩ = some (.string ⟨#[]⟩))
  (first | go_keep | (refine ⟨keep1 hb5 ?_, keep1 hb5 ?_, keep1 hb5 ?_, keep1 hb5 ?_, keep1 hb5 ?_, keep1 hb5 ?_, keep1 hb5 ?_, keep1 hb5 ?_⟩ <;> go_keep))
  (first | (go_at_call 146; refine (Hbg.out _ (HT.out.bl B1.drew) (hv.out.next B1.drew)).mono ?_; rintro e w5 ⟨rfl, hb5⟩))
 clear v0 v1 k0 k1 k2 k3 k4 k5
 have B5 := belN B1.drew hb5
 have b5 := (Below.refl W1.heap.size W1).drew.trans hb5
 have K5 := Lib.hid (K.out.below b5 K.out.lt)
 have R5 := Lib.hid (R.out.below b5 R.out.lt)
 have BV5 := Lib.hid (BV.out.below b5 BV.out.lt)
 clear K R BV
 rcases HC.out with ⟨hpl, hlk⟩ | ⟨k, hkx, hpl, hid, ⟨hd, hlk⟩ | ⟨hd, hdok, hcase⟩⟩
 ·have Hlk := Lib.hid hlk
  rw [bg_none hpl]
  clear hlk hpl
  have hR9 := R5.out
  obtain ⟨r0, r1, r2, r3⟩ := hR9.g4
  obtain ⟨g0, g1, g2, g3⟩ := hR9.f4
  have lR := hR9.lt
  clear hR9
  go_wp2
  refine bodyPost_ret (v := (LkD.bad 2).val) (by simp [results, Tryz.results103, go_sem, LkD.val, LkD.bad, r0, r1, r2, r3]) rfl ⟨by rw [Hlk.out]; try rfl, ?_⟩
  exact belC (belC (belC (belC B5 _ _ (by omega) _) _ _ (by omega) _) _ _ (by omega) _) _ _ (by omega) _
 ·have Hlk := Lib.hid hlk
  rw [bg_at hkx hpl, if_neg hd]
  clear hlk hpl hd
  have hR9 := R5.out
  obtain ⟨r0, r1, r2, r3⟩ := hR9.g4
  obtain ⟨g0, g1, g2, g3⟩ := hR9.f4
  have lR := hR9.lt
  clear hR9
  go_wp2
  refine bodyPost_ret (v := (LkD.bad 4).val) (by simp [results, Tryz.results103, go_sem, LkD.val, LkD.bad, r0, r1, r2, r3]) rfl ⟨by rw [Hlk.out]; try rfl, ?_⟩
  exact belC (belC (belC (belC B5 _ _ (by omega) _) _ _ (by omega) _) _ _ (by omega) _) _ _ (by omega) _
 ·rw [bg_at hkx hpl, if_pos hd]
  simp only [hpl] at Hat
  obtain ⟨v0, v1⟩ := BV5.out.g2
  have k1 := K5.out.get 1 rfl
  have hkn : k < n := by have := HL.out; omega
  have q0 : (0 : Int) <= ↑k := by omega
  have q1 : (↑k : Int) < ↑n := by omega
  have HD := Lib.hid hdok
  have HCase := Lib.hid hcase
  clear hcase hdok hpl hd
  go_wp2_with fail
  go_region_held3 (fun w' => w'.cell? ⟨B, 0, none⟩ = some (.int .i64 nx) /\ w'.cell? ⟨B, 1, none⟩ = some (.slice A n c) /\ w'.cell? ⟨w.heap.size, 1, none⟩ = some (.int .i64 a))
   (first | go_keep | (refine ⟨keep1 hb6 ?_, keep1 hb6 ?_, keep1 hb6 ?_⟩ <;> go_keep))
   (first | (go_at_call 47; refine (Hat.out _ (hv.out.next B5.drew).is).mono ?_; rintro e w6 ⟨rfl, hb6⟩))
  clear v0 v1 k1
  have B6 := belN B5.drew hb6
  have K6 := Lib.hid (K5.out.drew.below hb6 K5.out.lt)
  have R6 := Lib.hid (R5.out.drew.below hb6 R5.out.lt)
  have BV6 := Lib.hid (BV5.out.drew.below hb6 BV5.out.lt)
  clear K5 R5 BV5
  have k0 := K6.out.get 0 rfl
  have k2 := K6.out.get 2 rfl
  go_wp2_with fail
  refine (Hen.out k hkx HD.out w6 (HT.out.bl B6) (by rw [HL.out]; exact BV6.out) (by rw [HL.out]; exact hv.out.next B6)).mono ?_
  rintro e w7 ⟨rfl, hb7⟩
  have B7 := belN B6 hb7
  have K7 := Lib.hid (K6.out.below hb7 K6.out.lt)
  have R7 := Lib.hid (R6.out.below hb7 R6.out.lt)
  have BV7 := Lib.hid (BV6.out.below hb7 BV6.out.lt)
  clear K6 R6 BV6 k0 k2
  rcases HCase.out with ⟨hf, hlk⟩ | ⟨i, hi, j, hj, hf, hpj, _, hlk⟩
  ·have Hlk := Lib.hid hlk
   rw [en_none hf]
   clear hlk hf HCase
   have hR9 := R7.out
   obtain ⟨r0, r1, r2, r3⟩ := hR9.g4
   obtain ⟨g0, g1, g2, g3⟩ := hR9.f4
   have lR := hR9.lt
   clear hR9
   go_wp2
   refine bodyPost_ret (v := (LkD.bad 2).val) (by simp [results, Tryz.results103, go_sem, LkD.val, LkD.bad, r0, r1, r2, r3]) rfl ⟨by rw [Hlk.out]; try rfl, ?_⟩
   exact belC (belC (belC (belC B7 _ _ (by omega) _) _ _ (by omega) _) _ _ (by omega) _) _ _ (by omega) _
  ·have Hlk := Lib.hid hlk
   rw [en_some hf, hpj]
   have hjn : j < n := by have := HL.out; omega
   have q2 : (0 : Int) <= ↑j := by omega
   have q3 : (↑j : Int) < ↑n := by omega
   obtain ⟨_, b, o, A', c', hA, hadb, z0, z1, z2, z3, z4, _⟩ := (H.out.next B7).at_ hjn
   obtain ⟨_, b', o', A2, c2, hA', _, _, _, _, _, y4, hrow⟩ := (H.out.next B7).at_ hkn
   subst hA
   obtain ⟨rfl, rfl⟩ : b = b' /\ o = o' := by simpa using hA'
   have Hlk2 := Lib.hid (Hlook.out xs[k] (List.getElem_mem hkx) i hi HD.out hf A2 c2)
   clear Hlook HCase hlk hf hpj hA'
   obtain ⟨e, he⟩ : ∃ e, xs[k].es[i] = e := ⟨_, rfl⟩
   rw [he] at Hlk
   simp only [he] at Hlk2
   obtain ⟨m, hm⟩ : ∃ m, xs[k].es.length = m := ⟨_, rfl⟩
   rw [hm] at y4 hrow
   simp only [hm] at Hlk2
   obtain ⟨x, hx⟩ : ∃ x, xs[j] = x := ⟨_, rfl⟩
   rw [hx] at z0 z1 z2 z3 z4 Hlk
   clear he hx
   have Hrow := Lib.hid hrow
   clear hm hrow
   obtain ⟨v0, v1⟩ := BV7.out.g2
   have k0 := K7.out.get 0 rfl
   have k2 := K7.out.get 2 rfl
   have ltB7 := BV7.out.lt
   have ltK7 := K7.out.lt
   go_wp2_with fail
   obtain ⟨w8, hw8⟩ : ∃ W, w7.alloc (.cells #[.int .i64 x.id, .int .i64 x.kd, .int .i64 x.ln, .string x.s, .slice A' x.es.length c'] 36) = W := ⟨_, rfl⟩
   have hb8 : Below w7.heap.size w7 w8 := by rw [<- hw8]; exact belA (bel0 _) _
   have hI : Blk w8 w7.heap.size 36 #[.int .i64 x.id, .int .i64 x.kd, .int .i64 x.ln, .string x.s, .slice A' x.es.length c'] := by rw [<- hw8]; exact Blk.new' _ _ _ _ rfl
   rw [hw8]
   have I8 := Lib.hid hI
   have B8 := belN B7 hb8
   have R8 := Lib.hid (R7.out.below hb8 R7.out.lt)
   have v0' := kp_ hb8 v0
   have v1' := kp_ hb8 v1
   have k2' := kp_ hb8 k2
   have y4' := kp_ hb8 y4
   clear hw8 hI v0 v1 k0 k2 z0 z1 z2 z3 z4 y4 R7
   have T8 := HT.out.bl B8.drew
   have Rw8 := ((Hrow.out.below hb8).more hb8.size).drew
   have T8a := HT.out.bl (belA B8 (.cells #[.int .i64 0, .int .i64 0, .string ⟨#[]⟩, .int .i64 0] 38)).drew
   have Rw8a := (((Hrow.out.below hb8).more hb8.size).below (belA (bel0 w8) (.cells #[.int .i64 0, .int .i64 0, .string ⟨#[]⟩, .int .i64 0] 38)) |>.more (by simp : w8.heap.size <= (w8.alloc (.cells #[.int .i64 0, .int .i64 0, .string ⟨#[]⟩, .int .i64 0] 38)).heap.size)).drew
   go_cut [10] from 11 to 72 (fun p wx => ∃ g : Nat, p = .pointer (some ⟨g, 0, none⟩) /\ Hid (Blk wx g 38 #[.int .i64 e.h, .int .i64 e.i, .string e.s, .int .i64 e.d]) /\ Below w8.heap.size w8 wx)
   case first =>
    refine wp_region_held_drew (S := fun w' => w'.cell? ⟨B, 0, none⟩ = some (.int .i64 nx) /\ w'.cell? ⟨B, 1, none⟩ = some (.slice (some ⟨b, o, none⟩) n c) /\ w'.cell? ⟨w.heap.size, 2, none⟩ = some (.string s) /\ w'.cell? ⟨b, o + k * 5 + 4, none⟩ = some (.slice A2 m c2)) (by kernel_rfl) (by exact ⟨v0', v1', k2', y4'⟩) (fun hHeld => ?_)
    refine tkW_ 0 ?_
    refine tkW_ 1 ?_
    refine tkW_ 2 ?_
    refine tkW_ 3 ?_
    refine tkW_ 4 ?_
    refine tkW_ 5 ?_
    refine tkW_ 6 ?_
    refine tkW_ 7 ?_
    refine tkW_ 8 ?_
    refine tkW_ 9 ?_
    refine rd2_ 10 14 (fun K hK => ?br11) (fun K hK => ?br12)
    case br11 =>
     go_simp
     go_at_call 153
     refine (Hlk2.out _ T8 Rw8).mono ?_
     rintro e w9 ⟨rfl, hb9⟩
     refine hK.out _ _ (by exact ⟨kp_ (hb9) v0', kp_ (hb9) v1', kp_ (hb9) k2', kp_ (hb9) y4'⟩) (fun hHeld2 => ?_)
     clear hK K hHeld
     refine tkW_ 11 ?_
     refine tkW_ 12 ?_
     refine tkW_ 13 ?_
     refine rd1_ 14 (fun K hK => ?br16)
     case br16 =>
      go_simp
      refine hK.out _ _ (by exact ⟨kp_ (belA hb9 _) v0', kp_ (belA hb9 _) v1', kp_ (belA hb9 _) k2', kp_ (belA hb9 _) y4'⟩) (fun hHeld3 => ?_)
      clear hK K
      refine rd1_ 15 (fun K hK => ?br17)
      case br17 =>
       go_simp
       refine hK.out _ _ (by exact ⟨kp_ (belA hb9 _) v0', kp_ (belA hb9 _) v1', kp_ (belA hb9 _) k2', kp_ (belA hb9 _) y4'⟩) (fun hHeld4 => ?_)
       clear hK K
       refine tkW_ 16 ?_
       refine wpAnyH_done (by kernel_rfl) ?_ _
       go_wp2_with fail
       go_meet
       case rel => exact ⟨_, rfl, Blk.new' _ _ _ _ rfl, (bel0 w8).drew.trans (belA hb9 _)⟩
    case br12 =>
     go_simp
     refine hK.out _ _ (by exact ⟨kp_ (belA (bel0 w8) _) v0', kp_ (belA (bel0 w8) _) v1', kp_ (belA (bel0 w8) _) k2', kp_ (belA (bel0 w8) _) y4'⟩) (fun hHeld2 => ?_)
     clear hK K hHeld
     refine rd1_ 10 (fun K hK => ?br19)
     case br19 =>
      go_simp
      go_at_call 153
      refine (Hlk2.out _ T8a Rw8a).mono ?_
      rintro e w9 ⟨rfl, hb9⟩
      have hbZ : Below w8.heap.size w8 w9 := (belA (bel0 w8) (.cells #[.int .i64 0, .int .i64 0, .string ⟨#[]⟩, .int .i64 0] 38)).drew.trans (hb9.mono (show w8.heap.size <= _ by simp))
      refine hK.out _ _ (by exact ⟨kp_ (hbZ) v0', kp_ (hbZ) v1', kp_ (hbZ) k2', kp_ (hbZ) y4'⟩) (fun hHeld3 => ?_)
      clear hK K hHeld2
      refine tkW_ 11 ?_
      refine tkW_ 12 ?_
      refine tkW_ 13 ?_
      have hE9 := (Blk.new' w8 38 #[.int .i64 0, .int .i64 0, .string ⟨#[]⟩, .int .i64 0] w8.heap.size).drew.below hb9 (by simp)
      have xE0 := hE9.get (x := .int .i64 0) 0 rfl
      have fE0 := hE9.frozen 0
      have xE1 := hE9.get (x := .int .i64 0) 1 rfl
      have fE1 := hE9.frozen 1
      have xE2 := hE9.get (x := .string ⟨#[]⟩) 2 rfl
      have fE2 := hE9.frozen 2
      have xE3 := hE9.get (x := .int .i64 0) 3 rfl
      have fE3 := hE9.frozen 3
      have lE := hE9.lt
      refine rd1_ 15 (fun K hK => ?br23)
      case br23 =>
       go_simp
       refine hK.out _ _ (by exact ⟨kp_ (belC (belC (belC (belC (hbZ) _ _ (Nat.le_refl _) _) _ _ (Nat.le_refl _) _) _ _ (Nat.le_refl _) _) _ _ (Nat.le_refl _) _) v0', kp_ (belC (belC (belC (belC (hbZ) _ _ (Nat.le_refl _) _) _ _ (Nat.le_refl _) _) _ _ (Nat.le_refl _) _) _ _ (Nat.le_refl _) _) v1', kp_ (belC (belC (belC (belC (hbZ) _ _ (Nat.le_refl _) _) _ _ (Nat.le_refl _) _) _ _ (Nat.le_refl _) _) _ _ (Nat.le_refl _) _) k2', kp_ (belC (belC (belC (belC (hbZ) _ _ (Nat.le_refl _) _) _ _ (Nat.le_refl _) _) _ _ (Nat.le_refl _) _) _ _ (Nat.le_refl _) _) y4'⟩) (fun hHeld4 => ?_)
       clear hK K
       refine tkW_ 16 ?_
       refine wpAnyH_done (by kernel_rfl) ?_ _
       go_wp2_with fail
       go_meet
       case rel => exact ⟨_, rfl, (((hE9.put 0 _ _ rfl).put 1 _ _ rfl).put 2 _ _ rfl).put 3 _ _ rfl, belC (belC (belC (belC hbZ _ _ (Nat.le_refl _) _) _ _ (Nat.le_refl _) _) _ _ (Nat.le_refl _) _) _ _ (Nat.le_refl _) _⟩
   case rest =>
    obtain ⟨g, rfl, hE, hbx⟩ := hcut
    have I9 := I8.out.below hbx I8.out.lt
    have hR9 := R8.out.below hbx R8.out.lt
    have B9 := belN B8 hbx
    have i0 := I9.get (x := .int .i64 x.id) 0 rfl
    have i3 := I9.get (x := .string x.s) 3 rfl
    have e2 := hE.out.get (x := .string e.s) 2 rfl
    obtain ⟨r0, r1, r2, r3⟩ := hR9.g4
    obtain ⟨g0, g1, g2, g3⟩ := hR9.f4
    have lR := hR9.lt
    clear hR9 I9 v0' v1' k2' y4'
    go_wp2
    refine bodyPost_ret (v := (⟨0, x.id, e.s, x.s⟩ : LkD).val) (by simp [results, Tryz.results103, go_sem, LkD.val, r0, r1, r2, r3]) rfl ⟨by rw [Hlk.out], ?_⟩
    exact belC (belC (belC (belC B9 _ _ (by omega) _) _ _ (by omega) _) _ _ (by omega) _) _ _ (by omega) _

theorem v_len16 {nx : Int} {xs : List InoD} (hv : VolP nx xs) : xs.length <= 100000 := by have := hv.n.2; omega

theorem walk_impl0 (v : Value) (V : VolD) (sm : szV V <= 1048576) (hp : VolP V.nx V.xs) (l : List ByteArray) (hl : ∀ s ∈ l, nameOkB s = true) (m : Nat) (hm : m = l.length) (hm2 : m <= 10000) (An : Option Addr) (cn : Nat) (w : World) (hT : Tab w) (hC : IsVolC w v V) (hR : Reads w w.heap.size 1 An m (SS l)) :
  Calls Tryz.prog 63 #[v, .slice An m cn] w fun e w' => e = .returned (.tuple #[.int .i64 (wkP V.xs 1 l).1, .int .i64 (wkP V.xs 1 l).2]) /\ Below w.heap.size w w' := by
 have Hcp := Lib.hid (fun W hW => copyVol_impl v V (v_len16 hp) (fun x hx => by have := es_len hp hx; omega) W hW)
 have Hdo := Lib.hid (fun B A c a s hs W hT hB hW => do_look B A c V sm hp a s hs W hT hB hW)
 have hv := Lib.hid hC
 have HT := Lib.hid hT
 have HR := Lib.hid hR
 have Hnl := Lib.hid hl
 obtain ⟨A, c, rfl, _⟩ := hC
 obtain ⟨nx, xs⟩ := V
 simp only at Hcp Hdo hp ⊢
 clear hT hR hl sm hp
 obtain ⟨Q, hQ⟩ : ∃ Q, wkP xs 1 l = Q := ⟨_, rfl⟩
 have HQ := Lib.hid hQ
 rw [hQ]
 clear hQ
 obtain ⟨W1, hW1⟩ : ∃ W1, w.alloc (.cells #[.int .i64 nx, .slice A xs.length c] 26) = W1 := ⟨_, rfl⟩
 have B1 : Below w.heap.size w W1 := by rw [<- hW1]; exact belA (bel0 w) _
 have hV : Blk W1 w.heap.size 26 #[.int .i64 nx, .slice A xs.length c] := by rw [<- hW1]; exact Blk.new' _ _ _ _ rfl
 have S1 := hV.lt
 have HW1 := Lib.hid hW1
 have V0 := Lib.hid (hV.get 0 rfl)
 have V1 := Lib.hid (hV.get 1 rfl)
 clear hW1 hV
 go_enter Tryz.func63, Tryz.ntmps63
 go_wp2
 rw [HW1.out]
 go_loopw [6, 13] (fun x i wr => ∃ (k : Nat) (id : Int), k <= m /\ i = .int .i64 k /\ x = .int .i64 id /\ Hid (wkP xs id (l.drop k) = Q) /\ Below W1.heap.size W1 wr)
  (fun _ i _ => m - (intOf i).toNat)
 case atStart => exact ⟨0, 1, by omega, rfl, rfl, by rw [List.drop_zero]; exact HQ.out, bel0 W1⟩
 case round =>
  obtain ⟨k, id, hk, rfl, rfl, hrel2, hbel⟩ := hrel
  have v0 := kp_ hbel V0.out
  have v1 := kp_ hbel V1.out
  have BB := belN B1 hbel
  by_cases hlt : k < m
  ·obtain ⟨hkx, ad, rfl, had, z0⟩ := reads_str (HR.out.below BB) hlt
   have q0 : (0 : Int) <= ↑k := by omega
   have q1 : (↑k : Int) < ↑m := by omega
   have hnk := Hnl.out _ (List.getElem_mem hkx)
   have Hst := Lib.hid (fun h => wk_step (xs := xs) (a := id) hkx h)
   have Hsp := Lib.hid (fun h => wk_stop (xs := xs) (a := id) hkx h)
   obtain ⟨t, ht⟩ : ∃ t, l[k] = t := ⟨_, rfl⟩
   simp only [ht] at hnk Hst Hsp z0
   clear ht
   obtain ⟨R, hR⟩ : ∃ R, lkP xs id t = R := ⟨_, rfl⟩
   have Hd := Lib.hid (fun B A c W hT hB hW => Hdo.out B A c id t hnk W hT hB hW)
   simp only [hR] at Hd Hst Hsp
   clear hR hnk
   obtain ⟨rc, ri, rs, rd⟩ := R
   simp only [LkD.val] at Hd Hst Hsp
   go_wp2_with fail
   refine (Hcp.out _ (hv.out.next BB).is).mono ?_
   rintro e w2 ⟨v2, rfl, hv2, hb2⟩
   have B2 := belN BB hb2
   obtain ⟨A2, c2, rfl, h2, hc2⟩ := hv2
   have Hv2 := Lib.hid (show IsVolC w2 (.agg #[.int .i64 nx, .slice A2 xs.length c2]) ⟨nx, xs⟩ from ⟨A2, c2, rfl, h2, hc2⟩)
   clear v0 v1 z0 h2
   go_wp2_with fail
   have hBk := Blk.new' w2 26 #[.int .i64 nx, .slice A2 xs.length c2] w2.heap.size
   have hbA : Below w2.heap.size w2 (w2.alloc (.cells #[.int .i64 nx, .slice A2 xs.length c2] 26)) := belA (bel0 _) _
   refine (Hd.out w2.heap.size A2 c2 _ ((HT.out.bl B2).al _) hBk (Hv2.out.next hbA)).mono ?_
   rintro e w3 ⟨rfl, hb3⟩
   have B3 := belN (belA B2 (.cells #[.int .i64 nx, .slice A2 xs.length c2] 26)) hb3
   clear hBk hbA
   by_cases hc0 : rc = 0
   ·subst hc0
    have Hn := Lib.hid ((Hst.out rfl).symm.trans hrel2.out)
    go_wp2
    go_roundw
    case rel => exact ⟨k + 1, ri, by omega, by go_num, rfl, Hn.out, belA (belN (belA (belN hbel hb2) _) hb3) _⟩
    case measure => simp [intOf]; omega
   ·have Hn := Lib.hid ((Hsp.out hc0).symm.trans hrel2.out)
    have hc1 : (rc != 0) = true := by simpa using hc0
    clear hc0
    go_wp2_with fail
    go_quiet (fail)
    go_wp2
    refine bodyPost_ret (v := .tuple #[.int .i64 0, .int .i64 rc]) (by simp [results, Tryz.results63, go_sem]) rfl ⟨by rw [<- Hn.out], below_drewN (belA B3 _) _⟩
  ·have Hf := Lib.hid ((wk_end (xs := xs) (a := id) (show l.length <= k by omega)).symm.trans hrel2.out)
   clear v0 v1
   go_wp2
   refine bodyPost_ret (v := .tuple #[.int .i64 id, .int .i64 0]) (by simp [results, Tryz.results63, go_sem]) rfl ⟨by rw [<- Hf.out], BB⟩

theorem walkV_impl (v : Value) (V : VolD) (sm : szV V <= 1048576) (s : ByteArray) (hs : s.size <= 2000000) (w : World) (hT : Tab w) (hC : IsVolC w v V) :
  Calls Tryz.prog 23 #[v, .string s] w fun e w' => e = .returned (.tuple #[.int .i64 (walkP V (spB s)).1, .int .i64 (walkP V (spB s)).2]) /\ Below w.heap.size w w' := by
 have Hsp := Lib.hid (fun W hT => splitPath_impl s hs W hT)
 have Hok := Lib.hid (fun W hT hW => volOk_impl v V sm W hT hW)
 have Hwk := Lib.hid (fun hp An cn W hT hW hR => walk_impl0 v V sm hp (spB s).1 (fun t ht => sp_names ht) _ rfl (by have := sp_len s; omega) An cn W hT hW hR)
 have hvv := Lib.hid hC
 have HT := Lib.hid hT
 obtain ⟨A, c, rfl, _⟩ := hC
 obtain ⟨nx, xs⟩ := V
 simp only at Hok Hwk ⊢
 clear hT sm
 have Hbad := Lib.hid (fun h => walk_bad (V := ⟨nx, xs⟩) (p := spB s) h)
 have Hgood := Lib.hid (fun h h' => walk_ok (V := ⟨nx, xs⟩) (p := spB s) h h')
 obtain ⟨W1, hW1⟩ : ∃ W1, w.alloc (.cells #[.int .i64 nx, .slice A xs.length c] 26) = W1 := ⟨_, rfl⟩
 have B1 : Below w.heap.size w W1 := by rw [<- hW1]; exact belA (bel0 w) _
 have hV : Blk W1 w.heap.size 26 #[.int .i64 nx, .slice A xs.length c] := by rw [<- hW1]; exact Blk.new' _ _ _ _ rfl
 have HW1 := Lib.hid hW1
 have V0 := Lib.hid (hV.get 0 rfl)
 have V1 := Lib.hid (hV.get 1 rfl)
 clear hW1 hV
 obtain ⟨Q, hQ⟩ : ∃ Q, walkP ⟨nx, xs⟩ (spB s) = Q := ⟨_, rfl⟩
 simp only [hQ] at Hbad Hgood
 rw [hQ]
 clear hQ
 obtain ⟨P, hP⟩ : ∃ P, spB s = P := ⟨_, rfl⟩
 simp only [hP] at Hsp Hwk Hbad Hgood
 clear hP
 obtain ⟨names, ok⟩ := P
 simp only at Hsp Hwk Hbad Hgood
 go_enter Tryz.func23, Tryz.ntmps23
 go_wp2_with fail
 rw [HW1.out]
 refine (Hsp.out W1 (HT.out.bl B1)).mono ?_
 rintro e w2 ⟨hb2, vn, rfl, hown⟩
 have B2 := belN B1 hb2
 obtain ⟨An, cn, rfl, _, _, hR⟩ := own_vals hown
 have HR := Lib.hid hR
 clear hown hR
 rcases ok with _ | _
 ·have Hf := Lib.hid (Hbad.out (.inl rfl))
  go_wp2
  refine bodyPost_ret (v := .tuple #[.int .i64 0, .int .i64 1]) (by simp [results, Tryz.results23, go_sem]) rfl ⟨by rw [Hf.out], B2⟩
 ·have v0 := kp_ hb2 V0.out
  have v1 := kp_ hb2 V1.out
  go_wp2_with fail
  refine (Hok.out w2 (HT.out.bl B2) (hvv.out.next B2)).mono ?_
  rintro e w3 ⟨rfl, hb3⟩
  have B3 := belN B2 hb3
  have v0' := kp_ hb3 v0
  have v1' := kp_ hb3 v1
  clear v0 v1
  rcases hok : volOkB nx xs with _ | _
  ·have Hf := Lib.hid (Hbad.out (.inr hok))
   go_wp2
   refine bodyPost_ret (v := .tuple #[.int .i64 0, .int .i64 1]) (by simp [results, Tryz.results23, go_sem]) rfl ⟨by rw [Hf.out], B3⟩
  ·have Hf := Lib.hid (Hgood.out (by simp) hok)
   have Hw := Lib.hid (Hwk.out (volOkB_iff.1 hok) An cn)
   clear hok
   go_wp2_with fail
   refine (Hw.out w3 (HT.out.bl B3) (hvv.out.next B3) ((HR.out.below hb3).more hb3.size)).mono ?_
   rintro e w4 ⟨rfl, hb4⟩
   clear v0' v1'
   go_wp2
   refine bodyPost_ret (v := .tuple #[.int .i64 (wkP xs 1 names).1, .int .i64 (wkP xs 1 names).2]) (by simp [results, Tryz.results23, go_sem]) rfl ⟨by rw [Hf.out], belN B3 hb4⟩

end Go.Proofs.YtjjniapamdleoaaGreatDoor
