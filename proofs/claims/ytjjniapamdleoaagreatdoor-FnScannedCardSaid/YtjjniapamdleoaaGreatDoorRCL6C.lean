/- Copies of volumes, of one's own; names spelled anew in place. -/
import Derived.Test.YtjjniapamdleoaaGreatDoorRCVolR
import Derived.Test.YtjjniapamdleoaaGreatDoorRCChg
import Derived.Test.YtjjniapamdleoaaGreatDoorRCAdd
namespace Go.Proofs.YtjjniapamdleoaaGreatDoor
open Go Go.RowKit
set_option maxHeartbeats 4000000
set_option maxRecDepth 100000

theorem gb_any {w w' : World} {b : Option Nat} (h : Below w.heap.size w w') : w.grownBy w' b := ⟨h.os, h.tape, h.output, h.size, fun i hi _ => h.block i hi⟩

theorem l6Copy_own (v : Value) (V : VolD) (hn1 : 1 <= V.xs.length) (hn : V.xs.length <= 100000) (hz : ∀ x ∈ V.xs, x.es.length <= 100000) (w : World) (h : IsVol w v V) :
  Calls Tryz.prog 78 #[v] w fun e w' => ∃ g c vs, e = .returned (.agg #[.int .i64 V.nx, .slice (some ⟨g, 0, none⟩) V.xs.length c]) /\ YR w' w.heap.size g c V.xs vs /\ DisV vs /\ Below w.heap.size w w' := by
 obtain ⟨A, c, rfl, h⟩ := h
 obtain ⟨nx, xs⟩ := V
 simp only at h hn hn1 hz ⊢
 obtain ⟨n, hn'⟩ : ∃ n, xs.length = n := ⟨_, rfl⟩
 have HL := Lib.hid hn'
 rw [hn'] at h hn hn1 ⊢
 have H := Lib.hid h
 have Hz := Lib.hid hz
 clear h hn' hz
 go_enter Tryz.func78, Tryz.ntmps78
 go_wp2
 obtain ⟨W0, hW0⟩ : ∃ W0, ((w.alloc (.cells #[.int .i64 nx, .slice A n c] 26)).alloc (.cells #[.int .i64 0, .slice none 0 0] 26)).alloc (.cells #[.int .i64 nx, .slice none 0 0] 26) = W0 := ⟨_, rfl⟩
 have B0 : Below w.heap.size w W0 := by rw [<- hW0]; exact belA (belA (belA (bel0 w) _) _) _
 have S0 : W0.heap.size = w.heap.size + 3 := by rw [<- hW0]; simp
 have hO : Blk W0 (w.heap.size + 2) 26 #[.int .i64 nx, .slice none 0 0] := by rw [<- hW0]; exact Blk.new' _ _ _ _ (by simp)
 have hR : Blk W0 (w.heap.size + 1) 26 #[.int .i64 0, .slice none 0 0] := by rw [<- hW0]; exact (Blk.new' _ _ _ _ (by simp)).alloc _
 have VV0 := Lib.hid (show Blk W0 w.heap.size 26 #[.int .i64 nx, .slice A n c] by rw [<- hW0]; exact ((Blk.new' _ _ _ _ rfl).alloc _).alloc _)
 rw [hW0]
 clear hW0
 have HB0 := Lib.hid B0
 go_loopw [4] (fun i wr => ∃ (k : Nat) (v : Value) (vs : List Value), k <= n /\ i = .int .i64 k /\ Blk wr (w.heap.size + 2) 26 #[.int .i64 nx, v] /\ Blk wr (w.heap.size + 1) 26 #[.int .i64 0, .slice none 0 0] /\ wr.ownsRow (w.heap.size + 3) 36 5 v k (IC (xs.take k) vs) /\ OwnV wr (w.heap.size + 3) (xs.take k) vs /\ DisV vs /\ Below w.heap.size w wr /\ Hid (Blk wr w.heap.size 26 #[.int .i64 nx, .slice A n c]))
  (fun i _ => n - (intOf i).toNat)
 case atStart => exact ⟨0, _, [], by omega, rfl, hO, hR, own_nilC _ _ _ _, OwnV.nil_ _ _, List.Pairwise.nil, B0, VV0.out⟩
 case round =>
  clear hO hR B0
  obtain ⟨k, v, vs, hk, rfl, hO, hR, hown, hrows, hdis, hbel, hVV⟩ := hrel
  have ltO := hO.lt
  have v1 := hVV.out.get (x := .slice A n c) 1 rfl
  have ltV := hVV.out.lt
  have c0 := hO.get (x := .int .i64 nx) 0 rfl
  have c1 := hO.get (x := v) 1 rfl
  by_cases hlt : k < n
  ·obtain ⟨hkx, b, o, A', c', rfl, hadb, z0, z1, z2, z3, z4, hrow⟩ := (H.out.below hbel).at_ hlt
   have q0 : (0 : Int) <= ↑k := by omega
   have q1 : (↑k : Int) < ↑n := by omega
   have hzk := Hz.out _ (List.getElem_mem hkx)
   have hts := Lib.hid (List.take_succ_eq_append_getElem hkx)
   have htl := Lib.hid (show (xs.take k).length = k by rw [List.length_take]; have := HL.out; omega)
   obtain ⟨x, hx⟩ : ∃ x, xs[k] = x := ⟨_, rfl⟩
   rw [hx] at z0 z1 z2 z3 z4 hrow hzk hts
   clear hx
   obtain ⟨id, kd, ln, s, es⟩ := x
   simp only at z0 z1 z2 z3 z4 hrow hzk
   obtain ⟨m, hm⟩ : ∃ m, es.length = m := ⟨_, rfl⟩
   have Hm := Lib.hid hm
   rw [hm] at z4 hrow hzk
   clear hm
   have Hown := Lib.hid hown
   have Hrows := Lib.hid hrows
   have Hrow := Lib.hid hrow
   have Dis := Lib.hid hdis
   clear hown hrows hrow hdis
   obtain ⟨D, d, rfl, _, _, _⟩ := own_vals Hown.out
   go_wp2_with fail
   obtain ⟨W5, hW5⟩ : ∃ W, wr.alloc (.cells #[.int .i64 id, .int .i64 kd, .int .i64 ln, .string s, .slice A' m c'] 36) = W := ⟨_, rfl⟩
   have hb5 : Below wr.heap.size wr W5 := by rw [<- hW5]; exact belA (bel0 _) _
   have hI : Blk W5 wr.heap.size 36 #[.int .i64 id, .int .i64 kd, .int .i64 ln, .string s, .slice A' m c'] := by rw [<- hW5]; exact Blk.new' _ _ _ _ rfl
   rw [hW5]
   clear hW5 v1 z0 z1 z2 z3 z4 c0 c1
   have BB := belN hbel hb5
   refine (l5Copy_any A' m c' es hzk _ (((Hrow.out.more hbel.size).below hb5).more hb5.size)).mono ?_
   rintro e w1 ⟨ve, rfl, owne, hb1⟩
   have B1 := belN BB hb1
   have Dis2 := Lib.hid (Dis.out.snoc Hrows.out owne hb5.size)
   have hO1 := hO.below (belN hb5 hb1) hO.lt
   have hR1 := hR.below (belN hb5 hb1) hR.lt
   have hI1 := hI.below hb1 hI.lt
   have own1 := own_below (own_below Hown.out hb5 (Nat.le_refl _)) hb1 (Nat.le_refl _)
   have rows1 := (Hrows.out.below hb5).below hb1
   obtain ⟨De, de, rfl, _, _, _⟩ := own_vals owne
   have VV1 := Lib.hid ((hVV.out.below (belN hb5 hb1) hVV.out.lt).far (p := ⟨wr.heap.size, 4, none⟩) (show w.heap.size ≠ wr.heap.size by omega) (.slice De m de))
   have gI4 := hI1.frozen 4
   have i4 := hI1.get (x := .slice A' m c') 4 rfl
   have lI := hI1.lt
   have hI2 : Blk (w1.setCell ⟨wr.heap.size, 4, none⟩ (.slice De m de)) wr.heap.size 36 #[.int .i64 id, .int .i64 kd, .int .i64 ln, .string s, .slice De m de] := hI1.put 4 _ _ rfl
   have hO2 := hO1.far (p := ⟨wr.heap.size, 4, none⟩) (show w.heap.size + 2 ≠ wr.heap.size by omega) (.slice De m de)
   have hR2 := hR1.far (p := ⟨wr.heap.size, 4, none⟩) (show w.heap.size + 1 ≠ wr.heap.size by omega) (.slice De m de)
   have rows2 := rows1.far hI1 4 (.slice De m de)
   have owne2 := own_more (owne.kept (only_setCell (p := ⟨wr.heap.size, 4, none⟩) (grown_refl w1 (some wr.heap.size)) (.inl rfl) (.slice De m de)) (.inr (own_blk_ne owne hI1 (by decide)))) (show w.heap.size + 3 <= W5.heap.size by have := hb5.size; have := S0; omega)
   have c1 := hO2.get (x := .slice D k d) 1 rfl
   have i0 := hI2.get (x := .int .i64 id) 0 rfl
   have i1 := hI2.get (x := .int .i64 kd) 1 rfl
   have i2 := hI2.get (x := .int .i64 ln) 2 rfl
   have i3 := hI2.get (x := .string s) 3 rfl
   have i5 := hI2.get (x := .slice De m de) 4 rfl
   have lI2 := hI2.lt
   have lO2 := hO2.lt
   have own2 := own1.kept (only_setCell (p := ⟨wr.heap.size, 4, none⟩) (grown_refl w1 (some wr.heap.size)) (.inl rfl) (.slice De m de)) (by
    rcases hv : (Value.slice D k d).ownBlock with _ | kk
    ·exact .inl rfl
    ·refine .inr fun he => ?_
     injection he with he
     have := (Hown.out.lt kk hv).2
     omega)
   have B2 := belC B1 wr.heap.size 4 (by omega) (.slice De m de)
   obtain ⟨W2, hW2⟩ : ∃ W, w1.setCell ⟨wr.heap.size, 4, none⟩ (.slice De m de) = W := ⟨_, rfl⟩
   have HW2 := Lib.hid hW2
   rw [hW2] at VV1 hI2 hO2 hR2 rows2 owne2 own2 B2 c1 i0 i1 i2 i3 i5 lI2 lO2
   have zW2 : w.heap.size + 3 <= W2.heap.size := by have := hO2.lt; have := hI2.lt; omega
   clear hW2
   go_upto_region 7 with fail
   rw [HW2.out]
   go_wp2_with (at_builtin; refine wpList_app _ rfl _ _ _ rfl Tryz.el_ino (own2.alloc (.cells #[.int .i64 id, .int .i64 kd, .int .i64 ln, .string s, .slice De m de] 36)) rfl (reads_new _ #[.int .i64 id, .int .i64 kd, .int .i64 ln, .string s, .slice De m de] 36 5 1 rfl) rfl (by simp [Value.oneCell']) (by unfold maxLen; omega) (by omega) (by simp; omega) ?_; intro v9 w9 ow9 hg9 _ bw9; obtain ⟨D9, d9, rfl⟩ := own_form1 ow9 (by omega); have O9 := Lib.hid ((hO2.alloc (.cells #[.int .i64 id, .int .i64 kd, .int .i64 ln, .string s, .slice De m de] 36)).grown hg9 (fun e => by have := (own2.lt _ e.symm).1; omega)); have VV9 := Lib.hid ((VV1.out.alloc (.cells #[.int .i64 id, .int .i64 kd, .int .i64 ln, .string s, .slice De m de] 36)).grown hg9 (fun e => by have := (own2.lt _ e.symm).1; omega)); have Q9 := Lib.hid ((hR2.alloc (.cells #[.int .i64 id, .int .i64 kd, .int .i64 ln, .string s, .slice De m de] 36)).grown hg9 (fun e => by have := (own2.lt _ e.symm).1; omega)); have rows9 := Lib.hid (((rows2.below (belA (bel0 W2) _)).snoc ⟨id, kd, ln, s, es⟩ (.slice De m de) (by rw [show (⟨id, kd, ln, s, es⟩ : InoD).es.length = m from Hm.out]; exact own_below owne2 (belA (bel0 W2) _) (Nat.le_refl _))).kept (own2.alloc _) hg9); have Ow9 := Lib.hid ow9; have Cw9 := Lib.hid bw9; have x1 := O9.out.get (x := .slice D k d) 1 rfl; have f1 := O9.out.frozen 1; have l1 := O9.out.lt; clear ow9 bw9 hg9)
   go_roundw
   case rel => exact ⟨k + 1, .slice (some ⟨D9, 0, none⟩) (k + 1) d9, vs ++ [.slice De m de], by omega, by go_num, O9.out.put 1 _ _ rfl, Q9.out.far (by simp) _, by rw [hts.out]; exact own_scV (own_snocI (by have := rows2.1; omega) Ow9.out) 1 (by omega) _, by rw [hts.out]; exact rows9.out.farV O9.out 1 _, Dis2.out, belC ((belA B2 _).trans (Cw9.out.mono (by omega))) _ _ (by omega) _, VV9.out.far (by simp; omega) _⟩
   case measure => simp [intOf]; omega
  ·obtain rfl : k = n := by omega
   have hxs : xs.take k = xs := List.take_of_length_le (by have := HL.out; omega)
   rw [hxs] at hown hrows
   obtain ⟨D, d, rfl⟩ := own_form1 hown (by omega)
   have r0 := hR.get (x := .int .i64 0) 0 rfl
   have r1 := hR.get (x := .slice none 0 0) 1 rfl
   obtain ⟨g0, g1⟩ := hR.f2
   have lR := hR.lt
   have hres := (hrows.farV hR 0 (.int .i64 nx)).farV (hR.set_ 0 (.int .i64 nx)) 1 (.slice (some ⟨D, 0, none⟩) k d)
   have hown2 := own_scV (g := w.heap.size + 1) (own_scV (g := w.heap.size + 1) hown 0 (by omega) (.int .i64 nx)) 1 (by omega) (.slice (some ⟨D, 0, none⟩) k d)
   go_wp2
   refine bodyPost_ret (v := .agg #[.int .i64 nx, .slice (some ⟨D, 0, none⟩) k d]) (by simp [results, Tryz.results78, go_sem, r0, r1]) rfl ⟨D, d, vs, rfl, by unfold YR; rw [HL.out]; exact ⟨own_more hown2 (by omega), hres.more (by omega)⟩, hdis, ?_⟩
   exact belC (belC hbel _ _ (by omega) _) _ _ (by omega) _

end Go.Proofs.YtjjniapamdleoaaGreatDoor
