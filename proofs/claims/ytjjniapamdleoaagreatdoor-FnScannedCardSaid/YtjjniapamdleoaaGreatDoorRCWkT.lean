/- Steps of Walk. -/
import Derived.Test.YtjjniapamdleoaaGreatDoorRCWkI
import Derived.Test.YtjjniapamdleoaaGreatDoorRCCpV
import Derived.Test.YtjjniapamdleoaaGreatDoorRCVolOk
import Derived.Test.YtjjniapamdleoaaGreatDoorRCRegH
import Derived.Deep.Cut
import Derived.Deep.CutRange
namespace Go.Proofs.YtjjniapamdleoaaGreatDoor
open Go Go.RowKit
set_option maxHeartbeats 40000000
set_option maxRecDepth 100000

theorem id_small {nx : Int} {xs : List InoD} (hv : VolP nx xs) {a : Int} (h : 0 <= plc xs a) : 1 <= a /\ a <= 100000 := by
 obtain ⟨k, hk, _, rfl⟩ := plc_lt h
 have h1 := hv.rows k hk
 have h2 := hv.next
 omega

theorem l1In_t (a b c : Int) (h : inI a b c = true) (w : World) : Calls Tryz.prog 56 #[.int .i64 a, .int .i64 b, .int .i64 c] w fun e w' => e = .returned (.bool true) /\ w' = w := by
 have := l1In_q a b c w
 rw [h] at this; exact this

theorem callOk_look (a : Int) (s : ByteArray) (ha : 0 <= a /\ a <= 100000) (hs : s.size <= 24) (w : World) :
  Calls Tryz.prog 166 #[.agg #[.int .i64 8, .int .i64 a, .string s, .int .i64 0, .string ⟨#[]⟩, .string ⟨#[]⟩]] w fun e w' => e = .returned (.bool true) /\ Below w.heap.size w w' := by
 have hi : inI a 0 100000 = true := by simp [inI]; omega
 have h24 : decide ((24 : Int) < (s.size : Int)) = false := by simp; omega
 go_enter Tryz.func166, Tryz.ntmps166
 go_wp2_with fail
 refine (l1In_t 8 1 8 rfl _).mono ?_
 rintro e w5 ⟨rfl, h5⟩
 rw [h5]
 clear h5 w5
 go_wp2_with fail
 refine (l1In_t a 0 100000 hi _).mono ?_
 rintro e w5 ⟨rfl, h5⟩
 rw [h5]
 clear h5 w5
 go_wp2_with fail
 refine (l1In_t 0 0 100000 rfl _).mono ?_
 rintro e w5 ⟨rfl, h5⟩
 rw [h5]
 clear h5 w5
 go_wp2
 go_ret
 exact ⟨rfl, belA (bel0 w) _⟩

theorem l6Dir_any (v : Value) (V : VolD) (hn : V.xs.length <= 10000000) (a : Int) (w : World) (hC : IsVolC w v V) :
  Calls Tryz.prog 167 #[v, .int .i64 a] w fun e w' => e = .returned (.bool (bgP V.xs a == 0)) /\ Below w.heap.size w w' := by
 have Hat := Lib.hid (fun W hW => l6At_any v V hn a W hW)
 have hv := Lib.hid hC
 have h := hC.is
 obtain ⟨A, c, rfl, h⟩ := h
 obtain ⟨nx, xs⟩ := V
 simp only at Hat h hn ⊢
 have H := Lib.hid h
 clear h hC
 obtain ⟨n, hn'⟩ : ∃ n, xs.length = n := ⟨_, rfl⟩
 have HL := Lib.hid hn'
 simp only [hn'] at Hat hv H hn ⊢
 clear hn'
 obtain ⟨W1, hW1⟩ : ∃ W1, w.alloc (.cells #[.int .i64 nx, .slice A n c] 26) = W1 := ⟨_, rfl⟩
 have B1 : Below w.heap.size w W1 := by rw [<- hW1]; exact belA (bel0 w) _
 have hV : Blk W1 w.heap.size 26 #[.int .i64 nx, .slice A n c] := by rw [<- hW1]; exact Blk.new' _ _ _ _ rfl
 have HW1 := Lib.hid hW1
 have V1 := Lib.hid (hV.get 1 rfl)
 clear hW1 hV
 rcases plc_cases xs a with ⟨hp, _⟩ | ⟨k, hkx, hp, _⟩
 ·have Hb := Lib.hid (show (bgP xs a == 0) = false by rw [bg_none hp]; rfl)
  simp only [hp] at Hat
  clear hp
  go_enter Tryz.func167, Tryz.ntmps167
  go_wp2_with fail
  rw [HW1.out]
  refine (Hat.out W1 (hv.out.next B1).is).mono ?_
  rintro e w2 ⟨rfl, hb2⟩
  go_wp2
  go_ret
  exact ⟨ret_bool Hb.out.symm, belN B1 hb2⟩
 ·have Hb := Lib.hid (bg_at hkx hp)
  have hkn : k < n := by have := HL.out; omega
  simp only [hp] at Hat
  clear hp
  have q0 : (0 : Int) <= ↑k := by omega
  have q1 : (↑k : Int) < ↑n := by omega
  obtain ⟨y, hy⟩ : ∃ y, xs[k].kd = y := ⟨_, rfl⟩
  have Hb2 := Lib.hid (show (bgP xs a == 0) = (y == 2) by
   rw [Hb.out, hy]; by_cases h : y = 2
   ·subst h; rfl
   ·rw [if_neg h, Bool.eq_iff_iff]; simp [h])
  go_enter Tryz.func167, Tryz.ntmps167
  go_wp2_with fail
  rw [HW1.out]
  refine (Hat.out W1 (hv.out.next B1).is).mono ?_
  rintro e w2 ⟨rfl, hb2⟩
  have v1 := kp_ hb2 V1.out
  obtain ⟨_, b, o, A', c', rfl, hadb, z0, z1, z2, z3, z4, hrow⟩ := (H.out.next (belN B1 hb2)).at_ hkn
  rw [hy] at z1
  clear z0 z2 z3 z4 hrow hy
  go_wp2
  go_ret
  exact ⟨ret_bool Hb2.out.symm, belN B1 hb2⟩

theorem l6Ents_any (v : Value) (V : VolD) (hn : V.xs.length <= 10000000) (a : Int) (k : Nat) (hk : k < V.xs.length) (hp : plc V.xs a = (k : Int)) (w : World) (hC : IsVolC w v V) :
  Calls Tryz.prog 220 #[v, .int .i64 a] w fun e w' => ∃ A' c', e = .returned (.slice A' V.xs[k].es.length c') /\ Reads w w.heap.size 4 A' V.xs[k].es.length (ES V.xs[k].es) /\ Below w.heap.size w w' := by
 have Hat := Lib.hid (fun W hW => l6At_any v V hn a W hW)
 simp only [hp] at Hat
 have hv := Lib.hid hC
 have h := hC.is
 obtain ⟨A, c, rfl, h⟩ := h
 obtain ⟨nx, xs⟩ := V
 simp only at Hat h hn hk ⊢
 have H := Lib.hid h
 clear h hC hp
 obtain ⟨n, hn'⟩ : ∃ n, xs.length = n := ⟨_, rfl⟩
 have hkn : k < n := by omega
 simp only [hn'] at Hat hv H hn ⊢
 clear hn'
 have q0 : (0 : Int) <= ↑k := by omega
 have q1 : (↑k : Int) < ↑n := by omega
 obtain ⟨W1, hW1⟩ : ∃ W1, w.alloc (.cells #[.int .i64 nx, .slice A n c] 26) = W1 := ⟨_, rfl⟩
 have B1 : Below w.heap.size w W1 := by rw [<- hW1]; exact belA (bel0 w) _
 have hV : Blk W1 w.heap.size 26 #[.int .i64 nx, .slice A n c] := by rw [<- hW1]; exact Blk.new' _ _ _ _ rfl
 have HW1 := Lib.hid hW1
 obtain ⟨v0, v1⟩ := hV.g2
 clear hW1 hV
 obtain ⟨_, b, o, A', c', hA, hadb, _, _, _, _, z4', hrow⟩ := H.out.at_ hkn
 subst hA
 have z4 := kp_ B1 z4'
 obtain ⟨m, hm⟩ : ∃ m, xs[k].es.length = m := ⟨_, rfl⟩
 rw [hm] at z4 hrow ⊢
 have Hrow := Lib.hid hrow
 clear z4' hm hrow
 go_enter Tryz.func220, Tryz.ntmps220
 go_wp2_with fail
 rw [HW1.out]
 go_region_held3 (fun w' => w'.cell? ⟨w.heap.size, 0, none⟩ = some (.int .i64 nx) /\ w'.cell? ⟨w.heap.size, 1, none⟩ = some (.slice (some ⟨b, o, none⟩) n c) /\ w'.cell? ⟨b, o + k * 5 + 4, none⟩ = some (.slice A' m c'))
  (first | go_keep | (refine ⟨keep1 hb5 ?_, keep1 hb5 ?_, keep1 hb5 ?_⟩ <;> go_keep))
  (first | (go_at_call 54; refine (Hat.out _ (hv.out.next B1.drew).is).mono ?_; rintro e w5 ⟨rfl, hb5⟩))
 go_wp2
 go_ret
 exact ⟨A', c', rfl, Hrow.out, belN B1.drew hb5⟩

theorem farC {w : World} {b o b' o' : Nat} {u x : Value} (hne : b ≠ b') (h : w.cell? ⟨b', o', none⟩ = some x) : (w.setCell ⟨b, o, none⟩ u).cell? ⟨b', o', none⟩ = some x := (World.cell?_setCell_far w ⟨b, o, none⟩ ⟨b', o', none⟩ u hne).trans h

theorem farR2 {w rx : World} {b b' o1 o2 o' : Nat} {u1 u2 x : Value} (h : rx = (w.setCell ⟨b, o1, none⟩ u1).setCell ⟨b, o2, none⟩ u2) (hne : b ≠ b') (hx : w.cell? ⟨b', o', none⟩ = some x) : rx.cell? ⟨b', o', none⟩ = some x := by
 subst h; exact farC hne (farC hne hx)
theorem farR4 {w : World} {b b' o1 o2 o3 o4 o' : Nat} {u1 u2 u3 u4 x : Value} (hne : b ≠ b') (hx : w.cell? ⟨b', o', none⟩ = some x) : ((((w.setCell ⟨b, o1, none⟩ u1).setCell ⟨b, o2, none⟩ u2).setCell ⟨b, o3, none⟩ u3).setCell ⟨b, o4, none⟩ u4).cell? ⟨b', o', none⟩ = some x := farC hne (farC hne (farC hne (farC hne hx)))
theorem foldBP {P : Program} {f : Func} {R : Ending -> World -> Prop} {e : Exit} {a : Act} {w : World} (h : ∀ w', w' = w -> bodyPost P f R e a w') : bodyPost P f R e a w := h w rfl
theorem two_put {w W : World} {X R : Nat} {tX tR : TypeId} {p0 p1 q0 q1 q2 q3 : Value} (a b c d e f : Value) (hX : Blk W X tX #[p0, p1]) (hR : Blk W R tR #[q0, q1, q2, q3]) (hne : X ≠ R) (hB : Below w.heap.size w W) (h1 : w.heap.size <= X) (h2 : w.heap.size <= R) :
  Blk ((((((W.setCell ⟨X, 0, none⟩ a).setCell ⟨X, 1, none⟩ b).setCell ⟨R, 0, none⟩ c).setCell ⟨R, 1, none⟩ d).setCell ⟨R, 2, none⟩ e).setCell ⟨R, 3, none⟩ f) X tX #[a, b] /\
  Blk ((((((W.setCell ⟨X, 0, none⟩ a).setCell ⟨X, 1, none⟩ b).setCell ⟨R, 0, none⟩ c).setCell ⟨R, 1, none⟩ d).setCell ⟨R, 2, none⟩ e).setCell ⟨R, 3, none⟩ f) R tR #[c, d, e, f] /\
  Below w.heap.size w ((((((W.setCell ⟨X, 0, none⟩ a).setCell ⟨X, 1, none⟩ b).setCell ⟨R, 0, none⟩ c).setCell ⟨R, 1, none⟩ d).setCell ⟨R, 2, none⟩ e).setCell ⟨R, 3, none⟩ f) :=
 ⟨((((((hX.put 0 a #[a, p1] rfl).put 1 b #[a, b] rfl).far (p := ⟨R, 0, none⟩) hne c).far (p := ⟨R, 1, none⟩) hne d).far (p := ⟨R, 2, none⟩) hne e).far (p := ⟨R, 3, none⟩) hne f),
  ((((((hR.far (p := ⟨X, 0, none⟩) hne.symm a).far (p := ⟨X, 1, none⟩) hne.symm b).put 0 c #[c, q1, q2, q3] rfl).put 1 d #[c, d, q2, q3] rfl).put 2 e #[c, d, e, q3] rfl).put 3 f #[c, d, e, f] rfl),
  belC (belC (belC (belC (belC (belC hB _ _ h1 _) _ _ h1 _) _ _ h2 _) _ _ h2 _) _ _ h2 _) _ _ h2 _⟩

theorem l6On_look (v : Value) (V : VolD) (sm : szV V <= 1048576) (hv : VolP V.nx V.xs) (a : Int) (s : ByteArray) (hs : s.size <= 24) (k : Nat) (hk : k < V.xs.length) (hpl : plc V.xs a = (k : Int)) (hd : V.xs[k].kd = 2) (w : World) (hC : IsVolC w v V) :
  Calls Tryz.prog 169 #[v, .agg #[.int .i64 8, .int .i64 a, .string s, .int .i64 0, .string ⟨#[]⟩, .string ⟨#[]⟩]] w fun e w' => e = .returned (.tuple #[v, (lkP V.xs a s).val]) /\ Below w.heap.size w w' := by
 have hn := v_len sm
 have Hat := Lib.hid (fun a W hW => l6At_any v V hn a W hW)
 have Hen := Lib.hid (fun W hW => l6Ents_any v V hn a k hk hpl W hW)
 have Hcp := Lib.hid (fun W hW => l6Copy_any v V (by have := hv.n.2; omega) (fun x hx => by have := es_len hv hx; omega) W hW)
 have Hnm := Lib.hid (v_names sm (List.getElem_mem hk))
 have hrn := v_rows sm _ (List.getElem_mem hk)
 have Hmiss := Lib.hid (fun h => lk_miss (s := s) hk hpl hd h)
 have Hhit := Lib.hid (fun (i : Nat) (hi : i < V.xs[k].es.length) (hf : V.xs[k].es.find? (fun e => alikeB e.s s) = some V.xs[k].es[i]) => show ∃ (j : Nat) (hj : j < V.xs.length), plc V.xs V.xs[k].es[i].d = (j : Int) /\ lkP V.xs a s = ⟨0, V.xs[j].id, V.xs[k].es[i].s, V.xs[j].s⟩ from by
  obtain ⟨_, h1⟩ := hv.not1 (List.getElem_mem hk) (List.getElem_mem hi)
  obtain ⟨j, hj, h2, _⟩ := plc_lt h1
  exact ⟨j, hj, h2, lk_hit hk hpl hd hf hj h2⟩)
 have hvv := Lib.hid hC
 have h := hC.is
 obtain ⟨A, c, rfl, h⟩ := h
 obtain ⟨nx, xs⟩ := V
 simp only at Hat Hen Hcp Hnm hrn Hmiss Hhit h hn hk ⊢
 have H := Lib.hid h
 clear h hC hpl hd hv sm
 obtain ⟨es, hes⟩ : ∃ es, xs[k].es = es := ⟨_, rfl⟩
 simp only [hes] at Hen Hnm hrn Hmiss Hhit
 obtain ⟨m, hm⟩ : ∃ m, es.length = m := ⟨_, rfl⟩
 have HM := Lib.hid hm
 simp only [hm] at Hen hrn
 clear hm
 obtain ⟨n, hn'⟩ : ∃ n, xs.length = n := ⟨_, rfl⟩
 have HL := Lib.hid hn'
 simp only [hn'] at Hat Hen Hcp hvv H hn ⊢
 clear hn'
 obtain ⟨W1, hW1⟩ : ∃ W1, (((w.alloc (.cells #[.int .i64 nx, .slice A n c] 26)).alloc (.cells #[.int .i64 8, .int .i64 a, .string s, .int .i64 0, .string ⟨#[]⟩, .string ⟨#[]⟩] 95)).alloc (.cells #[.int .i64 0, .slice none 0 0] 26)).alloc (.cells #[.int .i64 0, .int .i64 0, .string ⟨#[]⟩, .string ⟨#[]⟩] 54) = W1 := ⟨_, rfl⟩
 have B1 : Below w.heap.size w W1 := by rw [<- hW1]; exact belA (belA (belA (belA (bel0 w) _) _) _) _
 have hV : Blk W1 w.heap.size 26 #[.int .i64 nx, .slice A n c] := by rw [<- hW1]; exact (((Blk.new' _ _ _ _ rfl).alloc _).alloc _).alloc _
 have hK : Blk W1 (w.heap.size + 1) 95 #[.int .i64 8, .int .i64 a, .string s, .int .i64 0, .string ⟨#[]⟩, .string ⟨#[]⟩] := by rw [<- hW1]; exact ((Blk.new' _ _ _ _ (by simp)).alloc _).alloc _
 have hX : Blk W1 (w.heap.size + 2) 26 #[.int .i64 0, .slice none 0 0] := by rw [<- hW1]; exact (Blk.new' _ _ _ _ (by simp)).alloc _
 have hR : Blk W1 (w.heap.size + 3) 54 #[.int .i64 0, .int .i64 0, .string ⟨#[]⟩, .string ⟨#[]⟩] := by rw [<- hW1]; exact Blk.new' _ _ _ _ (by simp)
 have HW1 := Lib.hid hW1
 have VV := Lib.hid hV
 have KK := Lib.hid hK
 have XX := Lib.hid hX
 have RR := Lib.hid hR
 clear hW1 hV hK hX hR
 obtain ⟨v0, v1⟩ := VV.out.g2
 have k1 := KK.out.get 1 rfl
 have k2 := KK.out.get 2 rfl
 go_enter Tryz.func169, Tryz.ntmps169
 go_wp2_with fail
 rw [HW1.out]
 go_region_held3 (fun w' => w'.cell? ⟨w.heap.size, 0, none⟩ = some (.int .i64 nx) /\ w'.cell? ⟨w.heap.size, 1, none⟩ = some (.slice A n c) /\ w'.cell? ⟨w.heap.size + 1, 1, none⟩ = some (.int .i64 a) /\ w'.cell? ⟨w.heap.size + 1, 2, none⟩ = some (.string s))
  (first | go_keep | (refine ⟨keep1 hb5 ?_, keep1 hb5 ?_, keep1 hb5 ?_, keep1 hb5 ?_⟩ <;> go_keep) | (refine ⟨keep1 hb6 ?_, keep1 hb6 ?_, keep1 hb6 ?_, keep1 hb6 ?_⟩ <;> go_keep))
  (first
   | (go_at_call 220; refine (Hen.out _ (hvv.out.next B1.drew)).mono ?_; rintro e w5 ⟨A5, c5, rfl, hr5, hb5⟩)
   | (go_at_call 219; refine (l5At_any A5 m c5 es Hnm.out (by omega) s (by omega) _ ((hr5.below hb5).more hb5.size)).mono ?_; rintro e w6 ⟨r, rfl, hidx, hb6⟩))
--ON
 clear v0 v1 k1 k2
 have B6 := belN B1.drew (hb5.trans (hb6.mono hb5.size))
 have b6 := (Below.refl W1.heap.size W1).drew.trans (hb5.trans (hb6.mono hb5.size))
 have V6 := Lib.hid (VV.out.below b6 VV.out.lt)
 have K6 := Lib.hid (KK.out.below b6 KK.out.lt)
 have X6 := Lib.hid (XX.out.below b6 XX.out.lt)
 have R6 := Lib.hid (RR.out.below b6 RR.out.lt)
 clear VV KK XX RR
 rcases hidx with ⟨rfl, hf⟩ | ⟨i, hi, rfl, hf⟩
 ·have Hlk := Lib.hid (Hmiss.out hf)
  have v0 := V6.out.get (x := .int .i64 nx) 0 rfl
  have v1 := V6.out.get (x := .slice A n c) 1 rfl
  have hX9 := X6.out
  have hR9 := R6.out
  have HX9 := Lib.hid hX9
  have HR9 := Lib.hid hR9
  have x0 := hX9.get (x := .int .i64 0) 0 rfl
  have y0 := hX9.frozen 0
  have x1 := hX9.get (x := .slice none 0 0) 1 rfl
  have y1 := hX9.frozen 1
  have r0 := hR9.get (x := .int .i64 0) 0 rfl
  have g0 := hR9.frozen 0
  have r1 := hR9.get (x := .int .i64 0) 1 rfl
  have g1 := hR9.frozen 1
  have r2 := hR9.get (x := .string ⟨#[]⟩) 2 rfl
  have g2 := hR9.frozen 2
  have r3 := hR9.get (x := .string ⟨#[]⟩) 3 rfl
  have g3 := hR9.frozen 3
  have lX := hX9.lt
  have lR := hR9.lt
  clear hX9 hR9
  clear hf
  go_wp2
  refine foldBP ?_
  intro wf hwf
  obtain ⟨hX, hR, hB⟩ : Blk wf (w.heap.size + 2) 26 #[.int .i64 nx, .slice A n c] /\ Blk wf (w.heap.size + 3) 54 #[.int .i64 2, .int .i64 0, .string ⟨#[]⟩, .string ⟨#[]⟩] /\ Below w.heap.size w wf := by
   rw [hwf]
   first
    | exact two_put _ _ _ _ _ _ HX9.out HR9.out (by omega) B6 (by omega) (by omega)
    | exact two_put _ _ _ _ _ _ HX9.out.drew HR9.out.drew (by omega) B6.drew (by omega) (by omega)
  clear hwf
  have x0 := hX.get (x := .int .i64 nx) 0 rfl
  have x1 := hX.get (x := .slice A n c) 1 rfl
  have r0 := hR.get (x := .int .i64 2) 0 rfl
  have r1 := hR.get (x := .int .i64 0) 1 rfl
  have r2 := hR.get (x := .string ⟨#[]⟩) 2 rfl
  have r3 := hR.get (x := .string ⟨#[]⟩) 3 rfl
  clear hX hR
  refine bodyPost_ret (v := .tuple #[.agg #[.int .i64 nx, .slice A n c], (LkD.bad 2).val]) (by simp [results, Tryz.results169, go_sem, LkD.val, LkD.bad, x0, x1, r0, r1, r2, r3]) rfl ⟨by rw [Hlk.out]; try rfl, hB⟩
 ·obtain ⟨j, hj, hpj, hlk⟩ := Hhit.out i hi hf
  have Hlk := Lib.hid hlk
  have him : i < m := by have := HM.out; omega
  have hjn : j < n := by have := HL.out; omega
  have q0 : (0 : Int) <= ↑i := by omega
  have q1 : (↑i : Int) < ↑m := by omega
  have q2 : (0 : Int) <= ↑j := by omega
  have q3 : (↑j : Int) < ↑n := by omega
  have Hat2 := Lib.hid (fun W hW => Hat.out es[i].d W hW)
  simp only [hpj] at Hat2
  clear hf hlk hpj Hhit Hmiss
  have v0 := V6.out.get (x := .int .i64 nx) 0 rfl
  have v1 := V6.out.get (x := .slice A n c) 1 rfl
  have k1 := K6.out.get (x := .int .i64 a) 1 rfl
  go_wp2_with fail
  refine (Hen.out w6 (hvv.out.next B6)).mono ?_
  rintro e w7 ⟨A7, c7, rfl, hr7, hb7⟩
  have B7 := belN B6 hb7
  have V7 := Lib.hid (V6.out.below hb7 V6.out.lt)
  have K7 := Lib.hid (K6.out.below hb7 K6.out.lt)
  have X7 := Lib.hid (X6.out.below hb7 X6.out.lt)
  have R7 := Lib.hid (R6.out.below hb7 R6.out.lt)
  clear V6 K6 X6 R6 v0 v1 k1
  obtain ⟨_, b2, o2, hA7, hadb2, y0, y1, y2, y3⟩ := reads_ent (hr7.below hb7) him
  subst hA7
  obtain ⟨e, he⟩ : ∃ e, es[i] = e := ⟨_, rfl⟩
  rw [he] at y0 y1 y2 y3 Hlk
  simp only [he] at Hat2
  clear he
  obtain ⟨eh, ei, eS, ed⟩ := e
  simp only at y0 y1 y2 y3 Hlk Hat2
  obtain ⟨_, b, o, A', c', hA, hadb, z0, z1, z2, z3, z4, _⟩ := (H.out.next B7).at_ hjn
  subst hA
  obtain ⟨x, hx⟩ : ∃ x, xs[j] = x := ⟨_, rfl⟩
  rw [hx] at z0 z1 z2 z3 z4 Hlk
  clear hx
  obtain ⟨xi, xk, xl, xt, xe⟩ := x
  simp only at z0 z1 z2 z3 z4 Hlk
  obtain ⟨m', hm'⟩ : ∃ m', xe.length = m' := ⟨_, rfl⟩
  rw [hm'] at z4
  clear hm'
  go_wp2_with fail
  obtain ⟨w8, hw8e⟩ : ∃ W, w7.alloc (.cells #[.int .i64 eh, .int .i64 ei, .string eS, .int .i64 ed] 38) = W := ⟨_, rfl⟩
  have hb8 : Below w7.heap.size w7 w8 := by rw [<- hw8e]; exact belA (bel0 _) _
  have hE8 : Blk w8 w7.heap.size 38 #[.int .i64 eh, .int .i64 ei, .string eS, .int .i64 ed] := by rw [<- hw8e]; exact Blk.new' _ _ _ _ rfl
  rw [hw8e]
  clear hw8e
  have B8 := belN B7 hb8
  have V8 := Lib.hid (V7.out.below hb8 V7.out.lt)
  have K8 := Lib.hid (K7.out.below hb8 K7.out.lt)
  have X8 := Lib.hid (X7.out.below hb8 X7.out.lt)
  have R8 := Lib.hid (R7.out.below hb8 R7.out.lt)
  have E8 := Lib.hid hE8
  have s0 := V8.out.get (x := .int .i64 nx) 0 rfl
  have s1 := V8.out.get (x := .slice (some ⟨b, o, none⟩) n c) 1 rfl
  have s2 := hE8.get (x := .int .i64 ed) 3 rfl
  have s3 := kp_ hb8 z0
  have s4 := kp_ hb8 z1
  have s5 := kp_ hb8 z2
  have s6 := kp_ hb8 z3
  have s7 := kp_ hb8 z4
  clear V7 K7 X7 R7 hE8 y0 y1 y2 y3 z0 z1 z2 z3 z4
  have hw8 := (hvv.out.next B8.drew).is
  have hw8a := (hvv.out.next (belA B8 (.cells #[.int .i64 0, .int .i64 0, .int .i64 0, .string ⟨#[]⟩, .slice none 0 0] 36)).drew).is
  go_cut [8] from 33 (fun p wx => ∃ g : Nat, p = .pointer (some ⟨g, 0, none⟩) /\ Hid (Blk wx g 36 #[.int .i64 xi, .int .i64 xk, .int .i64 xl, .string xt, .slice A' m' c']) /\ Below w8.heap.size w8 wx)
  case first =>
   refine wp_region_held_drew (S := fun w' => w'.cell? ⟨w.heap.size, 0, none⟩ = some (.int .i64 nx) /\ w'.cell? ⟨w.heap.size, 1, none⟩ = some (.slice (some ⟨b, o, none⟩) n c) /\ w'.cell? ⟨w7.heap.size, 3, none⟩ = some (.int .i64 ed) /\ w'.cell? ⟨b, o + j * 5, none⟩ = some (.int .i64 xi) /\ w'.cell? ⟨b, o + j * 5 + 1, none⟩ = some (.int .i64 xk) /\ w'.cell? ⟨b, o + j * 5 + 2, none⟩ = some (.int .i64 xl) /\ w'.cell? ⟨b, o + j * 5 + 3, none⟩ = some (.string xt) /\ w'.cell? ⟨b, o + j * 5 + 4, none⟩ = some (.slice A' m' c')) (by kernel_rfl) (by exact ⟨s0, s1, s2, s3, s4, s5, s6, s7⟩) (fun hHeld => ?_)
   refine tkW_ 0 ?_
   refine tkW_ 1 ?_
   refine tkW_ 2 ?_
   refine tkW_ 3 ?_
   refine tkW_ 4 ?_
   refine rd2_ 5 8 (fun K hK => ?br6) (fun K hK => ?br7)
   case br6 =>
    go_simp
    go_at_call 54
    refine (Hat2.out _ hw8).mono ?_
    rintro e w9 ⟨rfl, hb9⟩
    refine hK.out _ _ (by exact ⟨kp_ (hb9) s0, kp_ (hb9) s1, kp_ (hb9) s2, kp_ (hb9) s3, kp_ (hb9) s4, kp_ (hb9) s5, kp_ (hb9) s6, kp_ (hb9) s7⟩) (fun hHeld2 => ?_)
    clear hK K hHeld
    refine tkW_ 6 ?_
    refine tkW_ 7 ?_
    refine rd1_ 8 (fun K hK => ?br10)
    case br10 =>
     go_simp
     refine hK.out _ _ (by exact ⟨kp_ (belA hb9 _) s0, kp_ (belA hb9 _) s1, kp_ (belA hb9 _) s2, kp_ (belA hb9 _) s3, kp_ (belA hb9 _) s4, kp_ (belA hb9 _) s5, kp_ (belA hb9 _) s6, kp_ (belA hb9 _) s7⟩) (fun hHeld3 => ?_)
     clear hK K
     refine rd1_ 9 (fun K hK => ?br11)
     case br11 =>
      go_simp
      refine hK.out _ _ (by exact ⟨kp_ (belA hb9 _) s0, kp_ (belA hb9 _) s1, kp_ (belA hb9 _) s2, kp_ (belA hb9 _) s3, kp_ (belA hb9 _) s4, kp_ (belA hb9 _) s5, kp_ (belA hb9 _) s6, kp_ (belA hb9 _) s7⟩) (fun hHeld4 => ?_)
      clear hK K
      refine wpAnyH_done (by kernel_rfl) ?_ _
      go_wp2_with fail
      go_meet
      case rel => exact ⟨_, rfl, Blk.new' _ _ _ _ rfl, (bel0 w8).drew.trans (belA hb9 _)⟩
   case br7 =>
    go_simp
    refine hK.out _ _ (by exact ⟨kp_ (belA (bel0 w8) _) s0, kp_ (belA (bel0 w8) _) s1, kp_ (belA (bel0 w8) _) s2, kp_ (belA (bel0 w8) _) s3, kp_ (belA (bel0 w8) _) s4, kp_ (belA (bel0 w8) _) s5, kp_ (belA (bel0 w8) _) s6, kp_ (belA (bel0 w8) _) s7⟩) (fun hHeld2 => ?_)
    clear hK K hHeld
    refine rd1_ 5 (fun K hK => ?br12)
    case br12 =>
     go_simp
     go_at_call 54
     refine (Hat2.out _ hw8a).mono ?_
     rintro e w9 ⟨rfl, hb9⟩
     have hbZ : Below w8.heap.size w8 w9 := (belA (bel0 w8) (.cells #[.int .i64 0, .int .i64 0, .int .i64 0, .string ⟨#[]⟩, .slice none 0 0] 36)).drew.trans (hb9.mono (show w8.heap.size <= _ by simp))
     refine hK.out _ _ (by exact ⟨kp_ (hbZ) s0, kp_ (hbZ) s1, kp_ (hbZ) s2, kp_ (hbZ) s3, kp_ (hbZ) s4, kp_ (hbZ) s5, kp_ (hbZ) s6, kp_ (hbZ) s7⟩) (fun hHeld3 => ?_)
     clear hK K hHeld2
     refine tkW_ 6 ?_
     refine tkW_ 7 ?_
     have hE9 := (Blk.new' w8 36 #[.int .i64 0, .int .i64 0, .int .i64 0, .string ⟨#[]⟩, .slice none 0 0] w8.heap.size).drew.below hb9 (by simp)
     have xE0 := hE9.get (x := .int .i64 0) 0 rfl
     have fE0 := hE9.frozen 0
     have xE1 := hE9.get (x := .int .i64 0) 1 rfl
     have fE1 := hE9.frozen 1
     have xE2 := hE9.get (x := .int .i64 0) 2 rfl
     have fE2 := hE9.frozen 2
     have xE3 := hE9.get (x := .string ⟨#[]⟩) 3 rfl
     have fE3 := hE9.frozen 3
     have xE4 := hE9.get (x := .slice none 0 0) 4 rfl
     have fE4 := hE9.frozen 4
     have lE := hE9.lt
     refine rd1_ 9 (fun K hK => ?br15)
     case br15 =>
      go_simp
      refine hK.out _ _ (by exact ⟨kp_ (belC (belC (belC (belC (belC (hbZ) _ _ (Nat.le_refl _) _) _ _ (Nat.le_refl _) _) _ _ (Nat.le_refl _) _) _ _ (Nat.le_refl _) _) _ _ (Nat.le_refl _) _) s0, kp_ (belC (belC (belC (belC (belC (hbZ) _ _ (Nat.le_refl _) _) _ _ (Nat.le_refl _) _) _ _ (Nat.le_refl _) _) _ _ (Nat.le_refl _) _) _ _ (Nat.le_refl _) _) s1, kp_ (belC (belC (belC (belC (belC (hbZ) _ _ (Nat.le_refl _) _) _ _ (Nat.le_refl _) _) _ _ (Nat.le_refl _) _) _ _ (Nat.le_refl _) _) _ _ (Nat.le_refl _) _) s2, kp_ (belC (belC (belC (belC (belC (hbZ) _ _ (Nat.le_refl _) _) _ _ (Nat.le_refl _) _) _ _ (Nat.le_refl _) _) _ _ (Nat.le_refl _) _) _ _ (Nat.le_refl _) _) s3, kp_ (belC (belC (belC (belC (belC (hbZ) _ _ (Nat.le_refl _) _) _ _ (Nat.le_refl _) _) _ _ (Nat.le_refl _) _) _ _ (Nat.le_refl _) _) _ _ (Nat.le_refl _) _) s4, kp_ (belC (belC (belC (belC (belC (hbZ) _ _ (Nat.le_refl _) _) _ _ (Nat.le_refl _) _) _ _ (Nat.le_refl _) _) _ _ (Nat.le_refl _) _) _ _ (Nat.le_refl _) _) s5, kp_ (belC (belC (belC (belC (belC (hbZ) _ _ (Nat.le_refl _) _) _ _ (Nat.le_refl _) _) _ _ (Nat.le_refl _) _) _ _ (Nat.le_refl _) _) _ _ (Nat.le_refl _) _) s6, kp_ (belC (belC (belC (belC (belC (hbZ) _ _ (Nat.le_refl _) _) _ _ (Nat.le_refl _) _) _ _ (Nat.le_refl _) _) _ _ (Nat.le_refl _) _) _ _ (Nat.le_refl _) _) s7⟩) (fun hHeld4 => ?_)
      clear hK K
      refine wpAnyH_done (by kernel_rfl) ?_ _
      go_wp2_with fail
      go_meet
      case rel => exact ⟨_, rfl, ((((hE9.put 0 _ _ rfl).put 1 _ _ rfl).put 2 _ _ rfl).put 3 _ _ rfl).put 4 _ _ rfl, belC (belC (belC (belC (belC hbZ _ _ (Nat.le_refl _) _) _ _ (Nat.le_refl _) _) _ _ (Nat.le_refl _) _) _ _ (Nat.le_refl _) _) _ _ (Nat.le_refl _) _⟩
  case rest =>
   obtain ⟨g, rfl, hI, hbx⟩ := hcut
   have B9 := belN B8 hbx
   have V9 := Lib.hid (V8.out.below hbx V8.out.lt)
   have K9 := Lib.hid (K8.out.below hbx K8.out.lt)
   have X9 := Lib.hid (X8.out.below hbx X8.out.lt)
   have R9 := Lib.hid (R8.out.below hbx R8.out.lt)
   have E9 := Lib.hid (E8.out.below hbx E8.out.lt)
   clear V8 K8 X8 R8 E8 s0 s1 s2 s3 s4 s5 s6 s7
   have i1 := hI.out.get (x := .int .i64 xk) 1 rfl
   have v0 := V9.out.get (x := .int .i64 nx) 0 rfl
   have v1 := V9.out.get (x := .slice (some ⟨b, o, none⟩) n c) 1 rfl
   go_wp2_with fail
   refine (Hcp.out _ (hvv.out.next B9).is).mono ?_
   rintro e wy ⟨vy, rfl, hvy, hby⟩
   obtain ⟨Ay, cy, rfl, _, _⟩ := hvy
   have By := belN B9 hby
   obtain ⟨wz, hwz⟩ : ∃ W, wy.alloc (.cells #[.int .i64 nx, .slice Ay xs.length cy] 26) = W := ⟨_, rfl⟩
   have hbz : Below wy.heap.size wy wz := by rw [<- hwz]; exact belA (bel0 _) _
   have bz := hby.trans (hbz.mono hby.size)
   have Bz := belN B9 bz
   have hX9 := X9.out.below bz X9.out.lt
   have hR9 := R9.out.below bz R9.out.lt
   have HX9 := Lib.hid hX9
   have HR9 := Lib.hid hR9
   clear i1 v0 v1
   have v0 := (V9.out.below bz V9.out.lt).get (x := .int .i64 nx) 0 rfl
   have v1 := (V9.out.below bz V9.out.lt).get (x := .slice (some ⟨b, o, none⟩) n c) 1 rfl
   have k0 := (K9.out.below bz K9.out.lt).get (x := .int .i64 8) 0 rfl
   have i0 := (hI.out.below bz hI.out.lt).get (x := .int .i64 xi) 0 rfl
   have i3 := (hI.out.below bz hI.out.lt).get (x := .string xt) 3 rfl
   have e2 := (E9.out.below bz E9.out.lt).get (x := .string eS) 2 rfl
   have nGX : g ≠ w.heap.size + 1 + 1 := Blk.ne_ (hI.out.below bz hI.out.lt) hX9 (by decide)
   have nGR : g ≠ w.heap.size + 1 + 1 + 1 := Blk.ne_ (hI.out.below bz hI.out.lt) hR9 (by decide)
   have nEX : w7.heap.size ≠ w.heap.size + 1 + 1 := Blk.ne_ (E9.out.below bz E9.out.lt) hX9 (by decide)
   have nER : w7.heap.size ≠ w.heap.size + 1 + 1 + 1 := Blk.ne_ (E9.out.below bz E9.out.lt) hR9 (by decide)
   have nGX' := nGX.symm
   have nGR' := nGR.symm
   have nEX' := nEX.symm
   have nER' := nER.symm
   clear V9 K9 X9 R9 E9 hI
   clear hX9 hR9
   have nVX : w.heap.size + 1 + 1 ≠ w.heap.size := by omega
   have nVR : w.heap.size + 1 + 1 + 1 ≠ w.heap.size := by omega
   go_upto_region 36 with fail
   try rw [hwz]
   refine wp_region_held_drew (S := fun w' => w'.cell? ⟨w.heap.size, 0, none⟩ = some (.int .i64 nx) /\ w'.cell? ⟨w.heap.size, 1, none⟩ = some (.slice (some ⟨b, o, none⟩) n c) /\ w'.cell? ⟨g, 0, none⟩ = some (.int .i64 xi) /\ w'.cell? ⟨w7.heap.size, 2, none⟩ = some (.string eS) /\ w'.cell? ⟨g, 3, none⟩ = some (.string xt)) (by kernel_rfl) (by exact ⟨v0, v1, i0, e2, i3⟩) (fun hHeld => ?_)
   obtain ⟨d0, d1, d2, d3, d4⟩ := hHeld
   refine foldH ?_
   intro r0 hr0
   rw [<- hr0] at d0 d1 d2 d3 d4
   have BX0 : Blk r0 (w.heap.size + 2) 26 #[.int .i64 0, .slice none 0 0] := by rw [hr0]; exact HX9.out.drew
   have BR0 : Blk r0 (w.heap.size + 3) 54 #[.int .i64 0, .int .i64 0, .string ⟨#[]⟩, .string ⟨#[]⟩] := by rw [hr0]; exact HR9.out.drew
   have bw0 : Below w.heap.size w r0 := by rw [hr0]; exact Bz.drew
   clear hr0
   have HBX0 := Lib.hid BX0
   have HBR0 := Lib.hid BR0
   clear BX0 BR0
   refine tkW_ 0 ?_ (hS := by exact ⟨d0, d1, d2, d3, d4⟩)
   refine tkW_ 1 ?_ (hS := by exact ⟨d0, d1, d2, d3, d4⟩)
   refine tkW_ 2 ?_ (hS := by exact ⟨d0, d1, d2, d3, d4⟩)
   refine tkW_ 3 ?_ (hS := by exact ⟨d0, d1, d2, d3, d4⟩)
   refine tkW_ 4 ?_ (hS := by exact ⟨d0, d1, d2, d3, d4⟩)
   refine tkW_ 5 ?_ (hS := by exact ⟨d0, d1, d2, d3, d4⟩)
   refine tkW_ 6 ?_ (hS := by exact ⟨d0, d1, d2, d3, d4⟩)
   refine tkW_ 7 ?_ (hS := by exact ⟨d0, d1, d2, d3, d4⟩)
   refine rd1_ 8 (fun K hK => ?br909)
   case br909 =>
    have x0 := HBX0.out.get (x := .int .i64 0) 0 rfl
    have y0 := HBX0.out.frozen 0
    have x1 := HBX0.out.get (x := .slice none 0 0) 1 rfl
    have y1 := HBX0.out.frozen 1
    have lX := HBX0.out.lt
    go_simp
    refine hK.out _ _ (by exact ⟨farC nVX (farC nVX (d0)), farC nVX (farC nVX (d1)), farC nGX' (farC nGX' (d2)), farC nEX' (farC nEX' (d3)), farC nGX' (farC nGX' (d4))⟩) (fun _ => ?_)
    clear hK K x0 y0 x1 y1 lX
    refine foldH ?_
    intro r1 hr1
    have p0 := farR2 hr1 nVX d0
    have p1 := farR2 hr1 nVX d1
    have p2 := farR2 hr1 nGX' d2
    have p3 := farR2 hr1 nEX' d3
    have p4 := farR2 hr1 nGX' d4
    have BX1 : Blk r1 (w.heap.size + 2) 26 #[.int .i64 nx, .slice (some ⟨b, o, none⟩) n c] := by rw [hr1]; exact (HBX0.out.put 0 _ _ rfl).put 1 _ _ rfl
    have BR1 : Blk r1 (w.heap.size + 3) 54 #[.int .i64 0, .int .i64 0, .string ⟨#[]⟩, .string ⟨#[]⟩] := by rw [hr1]; exact (HBR0.out.far (p := ⟨w.heap.size + 2, 0, none⟩) (by simp only; omega) _).far (p := ⟨w.heap.size + 2, 1, none⟩) (by simp only; omega) _
    have bw1 : Below w.heap.size w r1 := by rw [hr1]; exact belC (belC bw0 _ _ (by omega) _) _ _ (by omega) _
    clear hr1 d0 d1 d2 d3 d4 HBX0 HBR0 bw0
    have HBX1 := Lib.hid BX1
    have HBR1 := Lib.hid BR1
    clear BX1 BR1
    refine rd1_ 9 (fun K hK => ?br910)
    case br910 =>
     have r0 := HBR1.out.get (x := .int .i64 0) 0 rfl
     have g0 := HBR1.out.frozen 0
     have r1' := HBR1.out.get (x := .int .i64 0) 1 rfl
     have g1 := HBR1.out.frozen 1
     have r2 := HBR1.out.get (x := .string ⟨#[]⟩) 2 rfl
     have g2 := HBR1.out.frozen 2
     have r3 := HBR1.out.get (x := .string ⟨#[]⟩) 3 rfl
     have g3 := HBR1.out.frozen 3
     have lR := HBR1.out.lt
     go_simp
     refine hK.out _ _ (by exact ⟨farR4 nVR p0, farR4 nVR p1, farR4 nGR' p2, farR4 nER' p3, farR4 nGR' p4⟩) (fun _ => ?_)
     clear hK K r0 g0 r1' g1 r2 g2 r3 g3 lR
     refine wpAnyH_done (by kernel_rfl) ?_ _
     go_wp2
     refine foldBP ?_
     intro wf hwf
     have hX : Blk wf (w.heap.size + 2) 26 #[.int .i64 nx, .slice (some ⟨b, o, none⟩) n c] := by
      rw [hwf]
      exact (((HBX1.out.far (p := ⟨w.heap.size + 3, 0, none⟩) (by simp only; omega) _).far (p := ⟨w.heap.size + 3, 1, none⟩) (by simp only; omega) _).far (p := ⟨w.heap.size + 3, 2, none⟩) (by simp only; omega) _).far (p := ⟨w.heap.size + 3, 3, none⟩) (by simp only; omega) _
     have hR : Blk wf (w.heap.size + 3) 54 #[.int .i64 0, .int .i64 xi, .string eS, .string xt] := by
      rw [hwf]
      exact (((HBR1.out.put 0 _ _ rfl).put 1 _ _ rfl).put 2 _ _ rfl).put 3 _ _ rfl
     have hB : Below w.heap.size w wf := by
      rw [hwf]
      exact belC (belC (belC (belC bw1 _ _ (by omega) _) _ _ (by omega) _) _ _ (by omega) _) _ _ (by omega) _
     clear hwf
     have x0 := hX.get (x := .int .i64 nx) 0 rfl
     have x1 := hX.get (x := .slice (some ⟨b, o, none⟩) n c) 1 rfl
     have r0 := hR.get (x := .int .i64 0) 0 rfl
     have r1' := hR.get (x := .int .i64 xi) 1 rfl
     have r2 := hR.get (x := .string eS) 2 rfl
     have r3 := hR.get (x := .string xt) 3 rfl
     clear hX hR
     refine bodyPost_ret (v := .tuple #[.agg #[.int .i64 nx, .slice (some ⟨b, o, none⟩) n c], (⟨0, xi, eS, xt⟩ : LkD).val]) (by simp [results, Tryz.results169, go_sem, LkD.val, x0, x1, r0, r1', r2, r3]) rfl ⟨by rw [Hlk.out]; try rfl, hB⟩
--NO

end Go.Proofs.YtjjniapamdleoaaGreatDoor
