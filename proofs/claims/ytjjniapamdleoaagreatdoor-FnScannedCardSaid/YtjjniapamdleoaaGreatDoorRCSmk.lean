/- A file is made: what the reference gives, word for word. -/
import Derived.Test.YtjjniapamdleoaaGreatDoorRCL6M
namespace Go.Proofs.YtjjniapamdleoaaGreatDoor
open Go Go.RowKit
set_option maxHeartbeats 8000000
set_option maxRecDepth 100000

/-- What a call on a volume answers: a code and a volume that meet Q; the volume is the one that was given or one of the call's own. -/
def CallQ (w0 : World) (v : Value) (V : VolD) (Q : Int -> VolD -> Prop) (e : Ending) (w' : World) : Prop :=
 ∃ v' V' r0 r1 r2 r3, e = .returned (.tuple #[v', .agg #[.int .i64 r0, .int .i64 r1, .string r2, .string r3]]) /\ Q r0 V' /\ ((v' = v /\ V' = V) ∨ ∃ g c us, v' = .agg #[.int .i64 V'.nx, .slice (some ⟨g, 0, none⟩) V'.xs.length c] /\ YR w' w0.heap.size g c V'.xs us)

theorem l6Make_q (v : Value) (V : VolD) (K : Int) (hq : QV K V) (hK : 1 <= K) (kd a : Int) (s : ByteArray) (tg : Int) (nm dt : ByteArray) (hkd : kd = 1) (hs : s.size <= 24) (k : Nat) (hk : k < V.xs.length) (hp : plc V.xs a = (k : Int)) (hd : V.xs[k].kd = 2) (Q : Int -> VolD -> Prop) (hQ0 : ∀ r, r ≠ 0 -> Q r V) (hQ1 : V.xs[k].es.find? (isN s) = none -> V.xs[k].es.length < 12 -> V.nx < 100000 -> Q 0 ⟨V.nx + 1, ptE (V.xs ++ [(⟨V.nx, 1, 1, ⟨#[]⟩, []⟩ : InoD)]) k (addP V.xs[k].es s V.nx).1⟩) (w : World) (hC : IsVolC w v V) :
  Calls Tryz.prog 168 #[v, .agg #[.int .i64 kd, .int .i64 a, .string s, .int .i64 tg, .string nm, .string dt]] w fun e w' => CallQ w v V Q e w' /\ Below w.heap.size w w' := by
 have HQ0 := Lib.hid hQ0
 have HQ1 := Lib.hid hQ1
 clear hQ0 hQ1
 have hn := hq.len
 have h0 := hq.nx
 have hnm := hq.names hk
 have Hen := Lib.hid (fun W hW => l6Ents_rd v V (by omega) a k hk hp W hW)
 have Hcp := Lib.hid (fun W hW => l6Copy_own v V (by omega) (by omega) (fun x hx => by have := (hq.sm.2 x hx).1; omega) W hW)
 have Hq := Lib.hid hq
 have Hd := Lib.hid hd
 have Hp := Lib.hid hp
 have hvv := Lib.hid hC
 obtain ⟨A, c, rfl, _⟩ := hC.is
 obtain ⟨nx, xs⟩ := V
 simp only at Hen Hcp hnm hn h0 hk Hd Hp HQ0 HQ1 ⊢
 have Hnm := Lib.hid hnm.2
 have hm12 := hnm.1
 have Hkd := Lib.hid hkd
 clear hC hp hd hq hnm hkd
 obtain ⟨m, hm⟩ : ∃ m, xs[k].es.length = m := ⟨_, rfl⟩
 have Hm := Lib.hid hm
 simp only [hm] at Hen hm12
 clear hm
 obtain ⟨w1, hW1⟩ : ∃ W, ((((w.alloc (.cells #[.int .i64 nx, .slice A xs.length c] 26)).alloc (.cells #[.int .i64 kd, .int .i64 a, .string s, .int .i64 tg, .string nm, .string dt] 95)).alloc (.cells #[.int .i64 0, .slice none 0 0] 26)).alloc (.cells #[.int .i64 0, .int .i64 0, .string ⟨#[]⟩, .string ⟨#[]⟩] 54)) = W := ⟨_, rfl⟩
 have BW1 : Below w.heap.size w w1 := by rw [<- hW1]; exact belA (belA (belA (belA (bel0 w) _) _) _) _
 have kV1 : Blk w1 w.heap.size 26 #[.int .i64 nx, .slice A xs.length c] := by rw [<- hW1]; exact ((((Blk.new' _ _ _ _ (by simp)).alloc _).alloc _).alloc _)
 have kC1 : Blk w1 (w.heap.size + 1) 95 #[.int .i64 kd, .int .i64 a, .string s, .int .i64 tg, .string nm, .string dt] := by rw [<- hW1]; exact (((Blk.new' _ _ _ _ (by simp)).alloc _).alloc _)
 have kX1 : Blk w1 (w.heap.size + 1 + 1) 26 #[.int .i64 0, .slice none 0 0] := by rw [<- hW1]; exact ((Blk.new' _ _ _ _ (by simp)).alloc _)
 have kR1 : Blk w1 (w.heap.size + 1 + 1 + 1) 54 #[.int .i64 0, .int .i64 0, .string ⟨#[]⟩, .string ⟨#[]⟩] := by rw [<- hW1]; exact (Blk.new' _ _ _ _ (by simp))
 have s1 : w1.heap.size = w.heap.size + 4 := by rw [<- hW1]; simp
 have HW1 := Lib.hid hW1
 have S1 := Lib.hid s1
 clear hW1 s1
 obtain ⟨v_0, v_1⟩ := kV1.g2
 obtain ⟨c_0, c_1, c_2, c_3, c_4, c_5⟩ := kC1.g6
 go_enter Tryz.func168, Tryz.ntmps168
 go_wp2_with fail
 rw [HW1.out]
 clear HW1
 go_region_held3 (fun w' => w'.cell? ⟨w.heap.size, 0, none⟩ = some (.int .i64 nx) /\ w'.cell? ⟨w.heap.size, 1, none⟩ = some (.slice A xs.length c) /\ w'.cell? ⟨(w.heap.size + 1), 1, none⟩ = some (.int .i64 a) /\ w'.cell? ⟨(w.heap.size + 1), 2, none⟩ = some (.string s))
  (first | go_keep | (refine ⟨keep1 hb5 ?_, keep1 hb5 ?_, keep1 hb5 ?_, keep1 hb5 ?_⟩ <;> go_keep) | (refine ⟨keep1 hb6 ?_, keep1 hb6 ?_, keep1 hb6 ?_, keep1 hb6 ?_⟩ <;> go_keep))
  (first
   | (go_at_call 220; refine (Hen.out _ (hvv.out.next BW1.drew)).mono ?_; rintro e w5 ⟨A5, c5, rfl, hr5, hb5⟩)
   | (go_at_call 219; refine (l5At_any A5 m c5 _ Hnm.out (by omega) s (by omega) _ ((hr5.below hb5).more hb5.size)).mono ?_; rintro e w6 ⟨r, rfl, hidx, hb6⟩))
 clear v_0 v_1 c_0 c_1 c_2 c_3 c_4 c_5
 have b6 : Below w1.heap.size w1 w6 := (Below.refl w1.heap.size w1).drew.trans (hb5.trans (hb6.mono hb5.size))
 have B6 := belN BW1 b6
 have kV6 := kV1.below b6 kV1.lt
 have kC6 := kC1.below b6 kC1.lt
 have kX6 := kX1.below b6 kX1.lt
 have kR6 := kR1.below b6 kR1.lt
 clear kV1 kC1 kX1 kR1
 have b6s : w.heap.size + 4 <= w6.heap.size := by have := b6.size; have := S1.out; omega
 clear hr5 b6 hb5 hb6 BW1
 rcases hidx with ⟨rfl, hf⟩ | ⟨i, hi, rfl, hf⟩
 rotate_left
 ·clear hf hi
  have q0 : (0 : Int) <= (i : Int) := by omega
  obtain ⟨v_0, v_1⟩ := kV6.g2
  obtain ⟨x_0, x_1⟩ := kX6.g2
  obtain ⟨r_0, r_1, r_2, r_3⟩ := kR6.g4
  obtain ⟨xf0, xf1⟩ := kX6.f2
  have xl := kX6.lt
  obtain ⟨rf0, rf1, rf2, rf3⟩ := kR6.f4
  have rl := kR6.lt
  go_wp2
  refine foldBPL ?_
  intro wf hwf
  obtain ⟨hX, hR, hB⟩ : Blk wf (w.heap.size + 1 + 1) 26 #[.int .i64 nx, .slice A xs.length c] /\ Blk wf (w.heap.size + 1 + 1 + 1) 54 #[.int .i64 3, .int .i64 0, .string ⟨#[]⟩, .string ⟨#[]⟩] /\ Below w.heap.size w wf := by
   rw [hwf]
   first
    | exact two_putL _ _ _ _ _ _ kX6 kR6 (by omega) B6 (by omega) (by omega)
    | exact two_putL _ _ _ _ _ _ kX6.drew kR6.drew (by omega) B6.drew (by omega) (by omega)
  clear hwf x_0 x_1 r_0 r_1 r_2 r_3
  obtain ⟨x_0, x_1⟩ := hX.g2
  obtain ⟨r_0, r_1, r_2, r_3⟩ := hR.g4
  refine bodyPost_ret (v := .tuple #[.agg #[.int .i64 nx, .slice A xs.length c], .agg #[.int .i64 3, .int .i64 0, .string ⟨#[]⟩, .string ⟨#[]⟩]]) (by simp [results, Tryz.results168, go_sem, x_0, x_1, r_0, r_1, r_2, r_3]) rfl ⟨⟨_, _, _, _, _, _, rfl, HQ0.out _ (by decide), .inl ⟨rfl, rfl⟩⟩, hB⟩
 have Hf := Lib.hid hf
 clear hf
 obtain ⟨v_0, v_1⟩ := kV6.g2
 obtain ⟨c_0, c_1, c_2, c_3, c_4, c_5⟩ := kC6.g6
 go_wp2_with fail
 refine (Hen.out w6 (hvv.out.next B6)).mono ?_
 rintro e w7 ⟨A7, c7, rfl, _, hb7⟩
 clear v_0 v_1 c_0 c_1 c_2 c_3 c_4 c_5
 have B7 := belN B6 hb7
 have b7s := hb7.size
 have kV7 := kV6.below hb7 kV6.lt
 have kC7 := kC6.below hb7 kC6.lt
 have kX7 := kX6.below hb7 kX6.lt
 have kR7 := kR6.below hb7 kR6.lt
 clear kV6 kC6 kX6 kR6
 by_cases h12 : (12 : Int) <= (m : Int)
 ·skip
  obtain ⟨v_0, v_1⟩ := kV7.g2
  obtain ⟨x_0, x_1⟩ := kX7.g2
  obtain ⟨r_0, r_1, r_2, r_3⟩ := kR7.g4
  obtain ⟨xf0, xf1⟩ := kX7.f2
  have xl := kX7.lt
  obtain ⟨rf0, rf1, rf2, rf3⟩ := kR7.f4
  have rl := kR7.lt
  go_wp2
  refine foldBPL ?_
  intro wf hwf
  obtain ⟨hX, hR, hB⟩ : Blk wf (w.heap.size + 1 + 1) 26 #[.int .i64 nx, .slice A xs.length c] /\ Blk wf (w.heap.size + 1 + 1 + 1) 54 #[.int .i64 7, .int .i64 0, .string ⟨#[]⟩, .string ⟨#[]⟩] /\ Below w.heap.size w wf := by
   rw [hwf]
   first
    | exact two_putL _ _ _ _ _ _ kX7 kR7 (by omega) B7 (by omega) (by omega)
    | exact two_putL _ _ _ _ _ _ kX7.drew kR7.drew (by omega) B7.drew (by omega) (by omega)
  clear hwf x_0 x_1 r_0 r_1 r_2 r_3
  obtain ⟨x_0, x_1⟩ := hX.g2
  obtain ⟨r_0, r_1, r_2, r_3⟩ := hR.g4
  refine bodyPost_ret (v := .tuple #[.agg #[.int .i64 nx, .slice A xs.length c], .agg #[.int .i64 7, .int .i64 0, .string ⟨#[]⟩, .string ⟨#[]⟩]]) (by simp [results, Tryz.results168, go_sem, x_0, x_1, r_0, r_1, r_2, r_3]) rfl ⟨⟨_, _, _, _, _, _, rfl, HQ0.out _ (by decide), .inl ⟨rfl, rfl⟩⟩, hB⟩
 by_cases h16 : (16 : Int) <= ((xs.length : Nat) : Int)
 ·skip
  obtain ⟨v_0, v_1⟩ := kV7.g2
  obtain ⟨x_0, x_1⟩ := kX7.g2
  obtain ⟨r_0, r_1, r_2, r_3⟩ := kR7.g4
  obtain ⟨xf0, xf1⟩ := kX7.f2
  have xl := kX7.lt
  obtain ⟨rf0, rf1, rf2, rf3⟩ := kR7.f4
  have rl := kR7.lt
  go_wp2
  refine foldBPL ?_
  intro wf hwf
  obtain ⟨hX, hR, hB⟩ : Blk wf (w.heap.size + 1 + 1) 26 #[.int .i64 nx, .slice A xs.length c] /\ Blk wf (w.heap.size + 1 + 1 + 1) 54 #[.int .i64 7, .int .i64 0, .string ⟨#[]⟩, .string ⟨#[]⟩] /\ Below w.heap.size w wf := by
   rw [hwf]
   first
    | exact two_putL _ _ _ _ _ _ kX7 kR7 (by omega) B7 (by omega) (by omega)
    | exact two_putL _ _ _ _ _ _ kX7.drew kR7.drew (by omega) B7.drew (by omega) (by omega)
  clear hwf x_0 x_1 r_0 r_1 r_2 r_3
  obtain ⟨x_0, x_1⟩ := hX.g2
  obtain ⟨r_0, r_1, r_2, r_3⟩ := hR.g4
  refine bodyPost_ret (v := .tuple #[.agg #[.int .i64 nx, .slice A xs.length c], .agg #[.int .i64 7, .int .i64 0, .string ⟨#[]⟩, .string ⟨#[]⟩]]) (by simp [results, Tryz.results168, go_sem, x_0, x_1, r_0, r_1, r_2, r_3]) rfl ⟨⟨_, _, _, _, _, _, rfl, HQ0.out _ (by decide), .inl ⟨rfl, rfl⟩⟩, hB⟩
 by_cases hmx : (100000 : Int) <= nx
 ·skip
  obtain ⟨v_0, v_1⟩ := kV7.g2
  obtain ⟨x_0, x_1⟩ := kX7.g2
  obtain ⟨r_0, r_1, r_2, r_3⟩ := kR7.g4
  obtain ⟨xf0, xf1⟩ := kX7.f2
  have xl := kX7.lt
  obtain ⟨rf0, rf1, rf2, rf3⟩ := kR7.f4
  have rl := kR7.lt
  go_wp2
  refine foldBPL ?_
  intro wf hwf
  obtain ⟨hX, hR, hB⟩ : Blk wf (w.heap.size + 1 + 1) 26 #[.int .i64 nx, .slice A xs.length c] /\ Blk wf (w.heap.size + 1 + 1 + 1) 54 #[.int .i64 7, .int .i64 0, .string ⟨#[]⟩, .string ⟨#[]⟩] /\ Below w.heap.size w wf := by
   rw [hwf]
   first
    | exact two_putL _ _ _ _ _ _ kX7 kR7 (by omega) B7 (by omega) (by omega)
    | exact two_putL _ _ _ _ _ _ kX7.drew kR7.drew (by omega) B7.drew (by omega) (by omega)
  clear hwf x_0 x_1 r_0 r_1 r_2 r_3
  obtain ⟨x_0, x_1⟩ := hX.g2
  obtain ⟨r_0, r_1, r_2, r_3⟩ := hR.g4
  refine bodyPost_ret (v := .tuple #[.agg #[.int .i64 nx, .slice A xs.length c], .agg #[.int .i64 7, .int .i64 0, .string ⟨#[]⟩, .string ⟨#[]⟩]]) (by simp [results, Tryz.results168, go_sem, x_0, x_1, r_0, r_1, r_2, r_3]) rfl ⟨⟨_, _, _, _, _, _, rfl, HQ0.out _ (by decide), .inl ⟨rfl, rfl⟩⟩, hB⟩
 obtain ⟨v_0, v_1⟩ := kV7.g2
 obtain ⟨c_0, c_1, c_2, c_3, c_4, c_5⟩ := kC7.g6
 go_wp2_with fail
 refine (Hcp.out w7 (hvv.out.next B7).is).mono ?_
 rintro e w8 ⟨gy, cy, us, rfl, hY, _, hb8⟩
 clear v_0 v_1 c_0 c_1 c_2 c_3 c_4 c_5
 have B8 := belN B7 hb8
 have kV8 := kV7.below hb8 kV7.lt
 have kC8 := kC7.below hb8 kC7.lt
 have kX8 := kX7.below hb8 kX7.lt
 have kR8 := kR7.below hb8 kR7.lt
 clear kV7 kC7 kX7 kR7
 obtain ⟨py, hpy⟩ : ∃ q, w8.heap.size = q := ⟨_, rfl⟩
 obtain ⟨w9, hw9⟩ : ∃ W, w8.alloc (.cells #[.int .i64 nx, .slice (some ⟨gy, 0, none⟩) xs.length cy] 26) = W := ⟨_, rfl⟩
 have kpy_0 : Blk w9 py 26 #[.int .i64 nx, .slice (some ⟨gy, 0, none⟩) xs.length cy] := by rw [<- hw9, <- hpy]; exact Blk.new' _ _ _ _ (by simp)
 have aw9 : Below w8.heap.size w8 w9 := by rw [<- hw9]; exact belA (bel0 _) _
 have zw9 : w9.heap.size = py + 1 := by rw [<- hw9]; simp; omega
 have Hw9 := Lib.hid hw9
 have Hpy := Lib.hid hpy
 have Zw9 := Lib.hid zw9
 clear hw9 hpy zw9
 have BW9 := belN B8 aw9
 have kV9 := kV8.below aw9 kV8.lt
 have kC9 := kC8.below aw9 kC8.lt
 have kX9 := kX8.below aw9 kX8.lt
 have kR9 := kR8.below aw9 kR8.lt
 clear kV8 kC8 kX8 kR8
 have Y9 := hY.below aw9
 have hpy1 : w.heap.size + 4 <= py := by have := hb8.size; have := Hpy.out; omega
 have hgy : gy < py := by have := hY.hi.2; have := Hpy.out; omega
 clear aw9 hY
 go_upto_region 6 with fail
 try rw [Hpy.out]
 rw [Hw9.out]
 clear Hw9 Hpy
 obtain ⟨pn, hpn⟩ : ∃ q, w9.heap.size = q := ⟨_, rfl⟩
 obtain ⟨w10, hw10⟩ : ∃ W, w9.alloc (.cells #[.int .i64 nx, .int .i64 1, .int .i64 1, .string ⟨#[]⟩, .slice none 0 0] 36) = W := ⟨_, rfl⟩
 have kpn_0 : Blk w10 pn 36 #[.int .i64 nx, .int .i64 1, .int .i64 1, .string ⟨#[]⟩, .slice none 0 0] := by rw [<- hw10, <- hpn]; exact Blk.new' _ _ _ _ (by simp)
 have aw10 : Below w9.heap.size w9 w10 := by rw [<- hw10]; exact belA (bel0 _) _
 have zw10 : w10.heap.size = pn + 1 := by rw [<- hw10]; simp; omega
 have Hw10 := Lib.hid hw10
 have Hpn := Lib.hid hpn
 have Zw10 := Lib.hid zw10
 clear hw10 hpn zw10
 have BW10 := belN BW9 aw10
 have kV10 := kV9.below aw10 kV9.lt
 have kC10 := kC9.below aw10 kC9.lt
 have kX10 := kX9.below aw10 kX9.lt
 have kR10 := kR9.below aw10 kR9.lt
 clear kV9 kC9 kX9 kR9
 have Y10 := Lib.hid (Y9.below aw10)
 have kY10 := kpy_0.below aw10 kpy_0.lt
 have hpn1 : pn = py + 1 := by have := Hpn.out; have := Zw9.out; omega
 have Hpn1 := Lib.hid hpn1
 obtain ⟨y_0, y_1⟩ := kpy_0.g2
 clear aw10 Y9 hpn1
 go_upto_region 7 with fail
 try rw [Hpn.out]
 rw [Hw10.out]
 clear Hw10 Hpn kpy_0 y_0 y_1
 obtain rfl := Hkd.out
 ·skip
  obtain ⟨c_0, c_1, c_2, c_3, c_4, c_5⟩ := kC10.g6
  have pl := kpn_0.lt
  go_upto_region 9 with fail
  clear pl c_0 c_1 c_2 c_3 c_4 c_5
  obtain ⟨w11, hw11⟩ : ∃ W, W = w10 := ⟨_, rfl⟩
  have kN11 := kpn_0
  have kY11 := kY10
  have BW11 := BW10
  have Y11 := Y10
  have kV11 := kV10
  have kC11 := kC10
  have kX11 := kX10
  have kR11 := kR10
  clear kpn_0 kY10 BW10 Y10 kV10 kC10 kX10 kR10
  subst hw11
  have wn : IntKind.i64.wrap (nx + 1) = nx + 1 := by rw [IntKind.wrap_i64]; omega
  have y_0 := kY11.get 0 rfl
  have yf0 := kY11.frozen 0
  have yl := kY11.lt
  go_upto_region 10 with fail
  clear y_0 yf0 yl
  obtain ⟨w12, hw12⟩ : ∃ W, w11.setCell ⟨py, 0, none⟩ (.int .i64 (nx + 1)) = W := ⟨_, rfl⟩
  have kY12 : Blk w12 py 26 #[.int .i64 (nx + 1), .slice (some ⟨gy, 0, none⟩) xs.length cy] := by rw [<- hw12]; exact kY11.put 0 _ _ rfl
  have kN12 : Blk w12 pn 36 #[.int .i64 nx, .int .i64 1, .int .i64 1, .string ⟨#[]⟩, .slice none 0 0] := by rw [<- hw12]; exact kN11.far (p := ⟨py, 0, none⟩) (by have := Hpn1.out; show pn ≠ py; omega) _
  have BW12 : Below w.heap.size w w12 := by rw [<- hw12]; exact belC BW11 _ _ (by omega) _
  have kV12 : Blk w12 w.heap.size 26 #[.int .i64 nx, .slice A xs.length c] := by rw [<- hw12]; exact kV11.far (p := ⟨py, 0, none⟩) (show w.heap.size ≠ py by omega) _
  have kC12 : Blk w12 (w.heap.size + 1) 95 #[.int .i64 1, .int .i64 a, .string s, .int .i64 tg, .string nm, .string dt] := by rw [<- hw12]; exact kC11.far (p := ⟨py, 0, none⟩) (show (w.heap.size + 1) ≠ py by omega) _
  have kX12 : Blk w12 (w.heap.size + 1 + 1) 26 #[.int .i64 0, .slice none 0 0] := by rw [<- hw12]; exact kX11.far (p := ⟨py, 0, none⟩) (show (w.heap.size + 1 + 1) ≠ py by omega) _
  have kR12 : Blk w12 (w.heap.size + 1 + 1 + 1) 54 #[.int .i64 0, .int .i64 0, .string ⟨#[]⟩, .string ⟨#[]⟩] := by rw [<- hw12]; exact kR11.far (p := ⟨py, 0, none⟩) (show (w.heap.size + 1 + 1 + 1) ≠ py by omega) _
  have Y12 : Hid (YR w12 w7.heap.size gy cy xs us) := Lib.hid (by rw [<- hw12]; exact Y11.out.farV kY11 0 _)
  rw [hw12]
  clear hw12 kN11 kY11 BW11 Y11 wn kV11 kC11 kX11 kR11
  have y_1 := kY12.get 1 rfl
  obtain ⟨n_0, n_1, n_2, n_3, n_4⟩ := kN12.g5
  have pl := kN12.lt
  have Own12 := Lib.hid Y12.out.1
  have hgl := Y12.out.hi
  have wl : w.heap.size + 4 <= w7.heap.size := by omega
  go_wp2_with (at_builtin; refine wpList_app _ rfl _ _ _ rfl Tryz.el_ino (Own12.out.alloc (.cells #[.int .i64 nx, .int .i64 1, .int .i64 1, .string ⟨#[]⟩, .slice none 0 0] 36)) rfl (reads_new _ #[.int .i64 nx, .int .i64 1, .int .i64 1, .string ⟨#[]⟩, .slice none 0 0] 36 5 1 rfl) rfl (by simp [Value.oneCell']) (by unfold maxLen; omega) (by omega) (by have := Y12.out.hi; simp; omega) ?_; intro v13 w13 own13 hg13 hc13 hb13; obtain ⟨D9, d9, rfl⟩ := own_form1 own13 (by omega); have kY13 := (kY12.alloc (.cells #[.int .i64 nx, .int .i64 1, .int .i64 1, .string ⟨#[]⟩, .slice none 0 0] 36)).grown hg13 (fun e => by have e2 : py = gy := (by simpa [Value.ownBlock] using e); omega); have x1 := kY13.get 1 rfl; have f1 := kY13.frozen 1; have l1 := kY13.lt)
  try clear x1
  try clear f1
  try clear l1
  clear y_1 n_0 n_1 n_2 n_3 n_4 pl
  have kV13 := (kV12.alloc (.cells #[.int .i64 nx, .int .i64 1, .int .i64 1, .string ⟨#[]⟩, .slice none 0 0] 36)).grown hg13 (fun e => by have e2 : w.heap.size = gy := (by simpa [Value.ownBlock] using e); have := Hpn1.out; omega)
  have kC13 := (kC12.alloc (.cells #[.int .i64 nx, .int .i64 1, .int .i64 1, .string ⟨#[]⟩, .slice none 0 0] 36)).grown hg13 (fun e => by have e2 : (w.heap.size + 1) = gy := (by simpa [Value.ownBlock] using e); have := Hpn1.out; omega)
  have kX13 := (kX12.alloc (.cells #[.int .i64 nx, .int .i64 1, .int .i64 1, .string ⟨#[]⟩, .slice none 0 0] 36)).grown hg13 (fun e => by have e2 : (w.heap.size + 1 + 1) = gy := (by simpa [Value.ownBlock] using e); have := Hpn1.out; omega)
  have kR13 := (kR12.alloc (.cells #[.int .i64 nx, .int .i64 1, .int .i64 1, .string ⟨#[]⟩, .slice none 0 0] 36)).grown hg13 (fun e => by have e2 : (w.heap.size + 1 + 1 + 1) = gy := (by simpa [Value.ownBlock] using e); have := Hpn1.out; omega)
  have kN13 := (kN12.alloc (.cells #[.int .i64 nx, .int .i64 1, .int .i64 1, .string ⟨#[]⟩, .slice none 0 0] 36)).grown hg13 (fun e => by have e2 : pn = gy := (by simpa [Value.ownBlock] using e); have := Hpn1.out; omega)
  have Y13 : YR w13 w7.heap.size D9 d9 (xs ++ [(⟨nx, 1, 1, ⟨#[]⟩, []⟩ : InoD)]) (us ++ [.slice none 0 0]) := ⟨by rw [List.length_append]; exact own_snocI Y12.out.2.1 own13, ((Y12.out.2.below (belA (bel0 w12) (.cells #[.int .i64 nx, .int .i64 1, .int .i64 1, .string ⟨#[]⟩, .slice none 0 0] 36))).snoc ⟨nx, 1, 1, ⟨#[]⟩, []⟩ (.slice none 0 0) (own_nilC _ _ _ _)).kept (Own12.out.alloc (.cells #[.int .i64 nx, .int .i64 1, .int .i64 1, .string ⟨#[]⟩, .slice none 0 0] 36)) hg13⟩
  have BW13 : Below w.heap.size w w13 := (belA BW12 _).trans (hb13.mono (by omega))
  have hD9 : D9 ≠ pn /\ D9 ≠ py := by
   have hz := kN12.lt
   have hz2 : (w12.alloc (.cells #[.int .i64 nx, .int .i64 1, .int .i64 1, .string ⟨#[]⟩, .slice none 0 0] 36)).heap.size = w12.heap.size + 1 := by simp
   have hq := Hpn1.out
   rcases hc13 with h | h
   ·have e2 : D9 = gy := (by simpa [Value.ownBlock] using h)
    omega
   ·have e2 : D9 = (w12.alloc (.cells #[.int .i64 nx, .int .i64 1, .int .i64 1, .string ⟨#[]⟩, .slice none 0 0] 36)).heap.size := (by simpa [Value.ownBlock] using h)
    omega
  clear hc13
  obtain ⟨w14, hw14⟩ : ∃ W, w13.setCell ⟨py, 1, none⟩ (.slice (some ⟨D9, 0, none⟩) (xs.length + 1) d9) = W := ⟨_, rfl⟩
  have kY14 : Blk w14 py 26 #[.int .i64 (nx + 1), .slice (some ⟨D9, 0, none⟩) (xs.length + 1) d9] := by rw [<- hw14]; exact kY13.put 1 _ _ rfl
  have kV14 : Blk w14 w.heap.size 26 #[.int .i64 nx, .slice A xs.length c] := by rw [<- hw14]; exact kV13.far (p := ⟨py, 1, none⟩) (by have := Hpn1.out; show w.heap.size ≠ py; omega) _
  have kC14 : Blk w14 (w.heap.size + 1) 95 #[.int .i64 1, .int .i64 a, .string s, .int .i64 tg, .string nm, .string dt] := by rw [<- hw14]; exact kC13.far (p := ⟨py, 1, none⟩) (by have := Hpn1.out; show (w.heap.size + 1) ≠ py; omega) _
  have kX14 : Blk w14 (w.heap.size + 1 + 1) 26 #[.int .i64 0, .slice none 0 0] := by rw [<- hw14]; exact kX13.far (p := ⟨py, 1, none⟩) (by have := Hpn1.out; show (w.heap.size + 1 + 1) ≠ py; omega) _
  have kR14 : Blk w14 (w.heap.size + 1 + 1 + 1) 54 #[.int .i64 0, .int .i64 0, .string ⟨#[]⟩, .string ⟨#[]⟩] := by rw [<- hw14]; exact kR13.far (p := ⟨py, 1, none⟩) (by have := Hpn1.out; show (w.heap.size + 1 + 1 + 1) ≠ py; omega) _
  have kN14 : Blk w14 pn 36 #[.int .i64 nx, .int .i64 1, .int .i64 1, .string ⟨#[]⟩, .slice none 0 0] := by rw [<- hw14]; exact kN13.far (p := ⟨py, 1, none⟩) (by have := Hpn1.out; show pn ≠ py; omega) _
  have Y14 := Lib.hid (show YR w14 w7.heap.size D9 d9 (xs ++ [(⟨nx, 1, 1, ⟨#[]⟩, []⟩ : InoD)]) (us ++ [.slice none 0 0]) by rw [<- hw14]; exact Y13.farV kY13 1 _)
  have BW14 : Below w.heap.size w w14 := by rw [<- hw14]; exact belC BW13 _ _ (by omega) _
  rw [hw14]
  clear hw14 own13 hg13 hb13 kY13 kY12 Y13 Y12 Own12 BW12 BW13 kV12 kV13 kC12 kC13 kX12 kX13 kR12 kR13 kN12 kN13
  have hk2 : k < (xs ++ [(⟨nx, 1, 1, ⟨#[]⟩, []⟩ : InoD)]).length := by simp; omega
  have e2 : (xs ++ [(⟨nx, 1, 1, ⟨#[]⟩, []⟩ : InoD)])[k] = xs[k] := List.getElem_append_left hk
  have QG2 := QG.snoc Hq.out (show xs.length < 16 by omega) (show nx < 100000 by omega) (kd := 1) (by omega) hK
  have hp2 : plc (xs ++ [(⟨nx, 1, 1, ⟨#[]⟩, []⟩ : InoD)]) a = (k : Int) := by have h := QG2.plc_at (k := k) hk2; have h2 := plc_inj hk Hp.out; simp only at h h2; rw [e2, h2] at h; exact h
  have He2 := Lib.hid e2
  have Hq2 := Lib.hid QG2
  have Hen2 := Lib.hid (fun W hW => l6Ents_own w7.heap.size D9 d9 (nx + 1) (xs ++ [(⟨nx, 1, 1, ⟨#[]⟩, []⟩ : InoD)]) (us ++ [.slice none 0 0]) (by simp; omega) a k hk2 hp2 W hW)
  simp only [e2, List.length_append, List.length_cons, List.length_nil, Nat.zero_add, Hm.out] at Hen2
  clear e2 QG2
  obtain ⟨y_0, y_1⟩ := kY14.g2
  have c_1 := kC14.get 1 rfl
  have c_2 := kC14.get 2 rfl
  have n_0 := kN14.get 0 rfl
  have HdO := Lib.hid (Hq.out.dir _ (List.getElem_mem hk))
  have hlo14 : w7.heap.size <= w14.heap.size := by have := Y14.out.hi; omega
  go_region_held3 (fun w' => w'.cell? ⟨py, 0, none⟩ = some (.int .i64 (nx + 1)) /\ w'.cell? ⟨py, 1, none⟩ = some (.slice (some ⟨D9, 0, none⟩) (xs.length + 1) d9) /\ w'.cell? ⟨w.heap.size + 1, 1, none⟩ = some (.int .i64 a) /\ w'.cell? ⟨w.heap.size + 1, 2, none⟩ = some (.string s) /\ w'.cell? ⟨pn, 0, none⟩ = some (.int .i64 nx))
   (first | go_keep | (refine ⟨keep1 hb15 ?_, keep1 hb15 ?_, keep1 hb15 ?_, keep1 hb15 ?_, keep1 hb15 ?_⟩ <;> go_keep) | (refine ⟨keep1 hb16 ?_, keep1 hb16 ?_, keep1 hb16 ?_, keep1 hb16 ?_, keep1 hb16 ?_⟩ <;> go_keep))
   (first
    | (go_at_call 220; refine (Hen2.out _ (Y14.out.below (bel0 w14).drew)).mono ?_; rintro e w15 ⟨vk, _, rfl, hok, hb15⟩)
    | (go_at_call 180; refine (l5Add_any w7.heap.size m vk _ HdO.out Hnm.out s (by omega) nx _ (Nat.le_trans hlo14 hb15.size) hok).mono ?_; rintro e w16 ⟨⟨L, b, vL, nL, hP, hnL, rfl, hoL⟩, hb16⟩))
  clear y_0 y_1 c_1 c_2 n_0
  subst hnL
  obtain ⟨Ae, ce, rfl, _⟩ := own_vals hoL
  have b16 : Below w14.heap.size w14 w16 := ((bel0 w14).drew.trans hb15).trans (hb16.mono hb15.size)
  have HoL := Lib.hid hoL
  have Y16 := Lib.hid (Y14.out.below b16)
  have BW16 := belN BW14 b16
  have kY16 := kY14.below b16 kY14.lt
  have kV16 := kV14.below b16 kV14.lt
  have kC16 := kC14.below b16 kC14.lt
  have kX16 := kX14.below b16 kX14.lt
  have kR16 := kR14.below b16 kR14.lt
  have kN16 := kN14.below b16 kN14.lt
  have HP := Lib.hid hP
  have hgD := Y16.out.hi
  have hkX := kX16.lt
  have hkR := kR16.lt
  clear hP hoL hok hb15 hb16 b16 Y14 BW14 kY14 kV14 kC14 kX14 kR14 kN14
  go_wp2_with fail
  refine wp_region_held_drew (S := fun w' => w'.cell? ⟨py, 0, none⟩ = some (.int .i64 (nx + 1)) /\ w'.cell? ⟨py, 1, none⟩ = some (.slice (some ⟨D9, 0, none⟩) (xs.length + 1) d9) /\ w'.cell? ⟨w.heap.size + 1, 1, none⟩ = some (.int .i64 a) /\ w'.cell? ⟨pn, 0, none⟩ = some (.int .i64 nx)) (by kernel_rfl) (by exact ⟨kY16.get 0 rfl, kY16.get 1 rfl, kC16.get 1 rfl, kN16.get 0 rfl⟩) (fun hHeld => ?_)
  clear hHeld
  refine foldH ?_
  intro r hr0
  have bw : w16.grownBy r (some D9) := by rw [hr0]; exact gb_below (grown_refl _ _) (bel0 w16).drew
  have kY : Blk r py 26 #[.int .i64 (nx + 1), .slice (some ⟨D9, 0, none⟩) (xs.length + 1) d9] := by rw [hr0]; exact kY16.drew
  have kC : Blk r (w.heap.size + 1) 95 #[.int .i64 1, .int .i64 a, .string s, .int .i64 tg, .string nm, .string dt] := by rw [hr0]; exact kC16.drew
  have kN : Blk r pn 36 #[.int .i64 nx, .int .i64 1, .int .i64 1, .string ⟨#[]⟩, .slice none 0 0] := by rw [hr0]; exact kN16.drew
  have kX : Blk r (w.heap.size + 1 + 1) 26 #[.int .i64 0, .slice none 0 0] := by rw [hr0]; exact kX16.drew
  have kR : Blk r (w.heap.size + 1 + 1 + 1) 54 #[.int .i64 0, .int .i64 0, .string ⟨#[]⟩, .string ⟨#[]⟩] := by rw [hr0]; exact kR16.drew
  have pY : YR r w7.heap.size D9 d9 (xs ++ [(⟨nx, 1, 1, ⟨#[]⟩, []⟩ : InoD)]) (us ++ [Value.slice none 0 0]) := by rw [hr0]; exact (Y16.out.below (bel0 w16).drew)
  have pL : World.ownsRow r w7.heap.size 38 4 (Value.slice Ae L.length ce) L.length (ES L) := by rw [hr0]; exact (own_below HoL.out (bel0 w16).drew (Nat.le_refl _))
  clear hr0
  apply mem4_w (P := fun  q => w16.grownBy q (some D9) /\ Blk q (w.heap.size + 1) 95 #[.int .i64 1, .int .i64 a, .string s, .int .i64 tg, .string nm, .string dt] /\ Blk q pn 36 #[.int .i64 nx, .int .i64 1, .int .i64 1, .string ⟨#[]⟩, .slice none 0 0] /\ Blk q (w.heap.size + 1 + 1 + 1) 54 #[.int .i64 0, .int .i64 0, .string ⟨#[]⟩, .string ⟨#[]⟩] /\ Blk q (w.heap.size + 1 + 1) 26 #[.int .i64 0, .slice none 0 0] /\ Blk q py 26 #[.int .i64 (nx + 1), .slice (some ⟨D9, 0, none⟩) (xs.length + 1) d9] /\ YR q w7.heap.size D9 d9 (ptE (xs ++ [(⟨nx, 1, 1, ⟨#[]⟩, []⟩ : InoD)]) k L) ((us ++ [Value.slice none 0 0]).set k (Value.slice Ae L.length ce)))
  case use =>
   intro key_mk1_4
   refine tkW_ 0 ?_ (hS := by exact ⟨kY.get 0 rfl, kY.get 1 rfl, kC.get 1 rfl, kN.get 0 rfl⟩)
   refine tkW_ 1 ?_ (hS := by exact ⟨kY.get 0 rfl, kY.get 1 rfl, kC.get 1 rfl, kN.get 0 rfl⟩)
   refine tkW_ 2 ?_ (hS := by exact ⟨kY.get 0 rfl, kY.get 1 rfl, kC.get 1 rfl, kN.get 0 rfl⟩)
   refine tkW_ 3 ?_ (hS := by exact ⟨kY.get 0 rfl, kY.get 1 rfl, kC.get 1 rfl, kN.get 0 rfl⟩)
   refine tkW_ 5 ?_ (hS := by exact ⟨kY.get 0 rfl, kY.get 1 rfl, kC.get 1 rfl, kN.get 0 rfl⟩)
   refine tkW_ 6 ?_ (hS := by exact ⟨kY.get 0 rfl, kY.get 1 rfl, kC.get 1 rfl, kN.get 0 rfl⟩)
   refine tkW_ 7 ?_ (hS := by exact ⟨kY.get 0 rfl, kY.get 1 rfl, kC.get 1 rfl, kN.get 0 rfl⟩)
   refine rd1_ 4 (fun K hK => ?br3008)
   case br3008 =>
    go_simp
    go_at_call 221
    refine (l6With_n (n := xs.length + 1) w7.heap.size D9 d9 (nx + 1) (xs ++ [(⟨nx, 1, 1, ⟨#[]⟩, []⟩ : InoD)]) (us ++ [Value.slice none 0 0]) (by simp) a k hk2 (Value.slice Ae L.length ce) L _ pY hp2 (by simp; omega) pL).mono ?_
    rintro e q ⟨rfl, hZ, hg⟩
    have bw2 := bw.trans hg
    have kY2 := blk_gV kY hg (Ne.symm hD9.2)
    have kC2 := blk_gV kC hg (by omega)
    have kN2 := blk_gV kN hg (Ne.symm hD9.1)
    have kX2 := blk_gV kX hg (by omega)
    have kR2 := blk_gV kR hg (by omega)
    have pZ2 := hZ
    refine hK.out _ _ (by exact ⟨kY2.get 0 rfl, kY2.get 1 rfl, kC2.get 1 rfl, kN2.get 0 rfl⟩) (fun _ => ?_)
    clear hK K
    try simp only [Act.put, pT_, pZ_, pS_]
    exact key_mk1_4  q ⟨bw2, kC2, kN2, kR2, kX2, kY2, pZ2⟩
  case key =>
   rintro  r ⟨bw, kC, kN, kR, kX, kY, pZ⟩
   try dsimp only
   refine rd1_ 8 (fun K hK => ?br3009)
   case br3009 =>
    have kX9 := (kX.put 0 (.int .i64 (nx + 1)) #[.int .i64 (nx + 1), .slice none 0 0] rfl).put 1 (.slice (some ⟨D9, 0, none⟩) (xs.length + 1) d9) #[.int .i64 (nx + 1), .slice (some ⟨D9, 0, none⟩) (xs.length + 1) d9] rfl
    have kY9 := (kY.far (p := ⟨(w.heap.size + 1 + 1), 0, none⟩) (by have := Hpn1.out; show py ≠ (w.heap.size + 1 + 1); omega) (.int .i64 (nx + 1))).far (p := ⟨(w.heap.size + 1 + 1), 1, none⟩) (by have := Hpn1.out; show py ≠ (w.heap.size + 1 + 1); omega) (.slice (some ⟨D9, 0, none⟩) (xs.length + 1) d9)
    have kC9 := (kC.far (p := ⟨(w.heap.size + 1 + 1), 0, none⟩) (by have := Hpn1.out; show w.heap.size + 1 ≠ (w.heap.size + 1 + 1); omega) (.int .i64 (nx + 1))).far (p := ⟨(w.heap.size + 1 + 1), 1, none⟩) (by have := Hpn1.out; show w.heap.size + 1 ≠ (w.heap.size + 1 + 1); omega) (.slice (some ⟨D9, 0, none⟩) (xs.length + 1) d9)
    have kN9 := (kN.far (p := ⟨(w.heap.size + 1 + 1), 0, none⟩) (by have := Hpn1.out; show pn ≠ (w.heap.size + 1 + 1); omega) (.int .i64 (nx + 1))).far (p := ⟨(w.heap.size + 1 + 1), 1, none⟩) (by have := Hpn1.out; show pn ≠ (w.heap.size + 1 + 1); omega) (.slice (some ⟨D9, 0, none⟩) (xs.length + 1) d9)
    have kR9 := (kR.far (p := ⟨(w.heap.size + 1 + 1), 0, none⟩) (by have := Hpn1.out; show (w.heap.size + 1 + 1 + 1) ≠ (w.heap.size + 1 + 1); omega) (.int .i64 (nx + 1))).far (p := ⟨(w.heap.size + 1 + 1), 1, none⟩) (by have := Hpn1.out; show (w.heap.size + 1 + 1 + 1) ≠ (w.heap.size + 1 + 1); omega) (.slice (some ⟨D9, 0, none⟩) (xs.length + 1) d9)
    have Z9 := (pZ.farV kX 0 (.int .i64 (nx + 1))).farV (kX.put 0 (.int .i64 (nx + 1)) #[.int .i64 (nx + 1), .slice none 0 0] rfl) 1 (.slice (some ⟨D9, 0, none⟩) (xs.length + 1) d9)
    have B9 : Below w.heap.size w r := belG BW16 bw (by omega)
    have B9' := belC (belC B9 (w.heap.size + 1 + 1) 0 (by omega) (.int .i64 (nx + 1))) (w.heap.size + 1 + 1) 1 (by omega) (.slice (some ⟨D9, 0, none⟩) (xs.length + 1) d9)
    obtain ⟨w19, hw19⟩ : ∃ W, (r.setCell ⟨(w.heap.size + 1 + 1), 0, none⟩ (.int .i64 (nx + 1))).setCell ⟨(w.heap.size + 1 + 1), 1, none⟩ (.slice (some ⟨D9, 0, none⟩) (xs.length + 1) d9) = W := ⟨_, rfl⟩
    rw [hw19] at kX9 kY9 kC9 kN9 kR9 Z9 B9'
    obtain ⟨xf0, xf1⟩ := kX.f2
    obtain ⟨xx0, xx1⟩ := kX.g2
    have xl := kX.lt
    go_simp
    refine hK.out _ _ (by first | exact ⟨kY9.get 0 rfl, kY9.get 1 rfl, kC9.get 1 rfl, kN9.get 0 rfl⟩ | (rw [hw19]; exact ⟨kY9.get 0 rfl, kY9.get 1 rfl, kC9.get 1 rfl, kN9.get 0 rfl⟩)) (fun _ => ?_)
    clear hK K
    try simp only [Act.put, pT_, pZ_, pS_]
    try rw [hw19]
    clear hw19 xf0 xf1 xx0 xx1 xl kX kY kC kN kR pZ B9 bw
    refine rd1_ 9 (fun K hK => ?br3010)
    case br3010 =>
     have kR10 := ((((kR9.put 0 (.int .i64 0) #[.int .i64 0, .int .i64 0, .string ⟨#[]⟩, .string ⟨#[]⟩] rfl).put 1 (.int .i64 nx) #[.int .i64 0, .int .i64 nx, .string ⟨#[]⟩, .string ⟨#[]⟩] rfl).put 2 (.string ⟨#[]⟩) #[.int .i64 0, .int .i64 nx, .string ⟨#[]⟩, .string ⟨#[]⟩] rfl).put 3 (.string ⟨#[]⟩) #[.int .i64 0, .int .i64 nx, .string ⟨#[]⟩, .string ⟨#[]⟩] rfl)
     have kX10 := ((((kX9.far (p := ⟨(w.heap.size + 1 + 1 + 1), 0, none⟩) (by have := Hpn1.out; show (w.heap.size + 1 + 1) ≠ (w.heap.size + 1 + 1 + 1); omega) (.int .i64 0)).far (p := ⟨(w.heap.size + 1 + 1 + 1), 1, none⟩) (by have := Hpn1.out; show (w.heap.size + 1 + 1) ≠ (w.heap.size + 1 + 1 + 1); omega) (.int .i64 nx)).far (p := ⟨(w.heap.size + 1 + 1 + 1), 2, none⟩) (by have := Hpn1.out; show (w.heap.size + 1 + 1) ≠ (w.heap.size + 1 + 1 + 1); omega) (.string ⟨#[]⟩)).far (p := ⟨(w.heap.size + 1 + 1 + 1), 3, none⟩) (by have := Hpn1.out; show (w.heap.size + 1 + 1) ≠ (w.heap.size + 1 + 1 + 1); omega) (.string ⟨#[]⟩))
     have kY10 := ((((kY9.far (p := ⟨(w.heap.size + 1 + 1 + 1), 0, none⟩) (by have := Hpn1.out; show py ≠ (w.heap.size + 1 + 1 + 1); omega) (.int .i64 0)).far (p := ⟨(w.heap.size + 1 + 1 + 1), 1, none⟩) (by have := Hpn1.out; show py ≠ (w.heap.size + 1 + 1 + 1); omega) (.int .i64 nx)).far (p := ⟨(w.heap.size + 1 + 1 + 1), 2, none⟩) (by have := Hpn1.out; show py ≠ (w.heap.size + 1 + 1 + 1); omega) (.string ⟨#[]⟩)).far (p := ⟨(w.heap.size + 1 + 1 + 1), 3, none⟩) (by have := Hpn1.out; show py ≠ (w.heap.size + 1 + 1 + 1); omega) (.string ⟨#[]⟩))
     have kC10 := ((((kC9.far (p := ⟨(w.heap.size + 1 + 1 + 1), 0, none⟩) (by have := Hpn1.out; show w.heap.size + 1 ≠ (w.heap.size + 1 + 1 + 1); omega) (.int .i64 0)).far (p := ⟨(w.heap.size + 1 + 1 + 1), 1, none⟩) (by have := Hpn1.out; show w.heap.size + 1 ≠ (w.heap.size + 1 + 1 + 1); omega) (.int .i64 nx)).far (p := ⟨(w.heap.size + 1 + 1 + 1), 2, none⟩) (by have := Hpn1.out; show w.heap.size + 1 ≠ (w.heap.size + 1 + 1 + 1); omega) (.string ⟨#[]⟩)).far (p := ⟨(w.heap.size + 1 + 1 + 1), 3, none⟩) (by have := Hpn1.out; show w.heap.size + 1 ≠ (w.heap.size + 1 + 1 + 1); omega) (.string ⟨#[]⟩))
     have kN10 := ((((kN9.far (p := ⟨(w.heap.size + 1 + 1 + 1), 0, none⟩) (by have := Hpn1.out; show pn ≠ (w.heap.size + 1 + 1 + 1); omega) (.int .i64 0)).far (p := ⟨(w.heap.size + 1 + 1 + 1), 1, none⟩) (by have := Hpn1.out; show pn ≠ (w.heap.size + 1 + 1 + 1); omega) (.int .i64 nx)).far (p := ⟨(w.heap.size + 1 + 1 + 1), 2, none⟩) (by have := Hpn1.out; show pn ≠ (w.heap.size + 1 + 1 + 1); omega) (.string ⟨#[]⟩)).far (p := ⟨(w.heap.size + 1 + 1 + 1), 3, none⟩) (by have := Hpn1.out; show pn ≠ (w.heap.size + 1 + 1 + 1); omega) (.string ⟨#[]⟩))
     have B10 := (belC (belC (belC (belC B9' (w.heap.size + 1 + 1 + 1) 0 (by omega) (.int .i64 0)) (w.heap.size + 1 + 1 + 1) 1 (by omega) (.int .i64 nx)) (w.heap.size + 1 + 1 + 1) 2 (by omega) (.string ⟨#[]⟩)) (w.heap.size + 1 + 1 + 1) 3 (by omega) (.string ⟨#[]⟩))
     have Z10 := Z9.far4 kR9 (.int .i64 0) (.int .i64 nx) (.string ⟨#[]⟩) (.string ⟨#[]⟩)
     obtain ⟨w20, hw20⟩ : ∃ W, ((((w19.setCell ⟨(w.heap.size + 1 + 1 + 1), 0, none⟩ (.int .i64 0)).setCell ⟨(w.heap.size + 1 + 1 + 1), 1, none⟩ (.int .i64 nx)).setCell ⟨(w.heap.size + 1 + 1 + 1), 2, none⟩ (.string ⟨#[]⟩)).setCell ⟨(w.heap.size + 1 + 1 + 1), 3, none⟩ (.string ⟨#[]⟩)) = W := ⟨_, rfl⟩
     rw [hw20] at kX10 kY10 kC10 kN10 kR10 Z10 B10
     obtain ⟨xf0, xf1, xf2, xf3⟩ := kR9.f4
     obtain ⟨xx0, xx1, xx2, xx3⟩ := kR9.g4
     have xl := kR9.lt
     go_simp
     refine hK.out _ _ (by first | exact ⟨kY10.get 0 rfl, kY10.get 1 rfl, kC10.get 1 rfl, kN10.get 0 rfl⟩ | (rw [hw20]; exact ⟨kY10.get 0 rfl, kY10.get 1 rfl, kC10.get 1 rfl, kN10.get 0 rfl⟩)) (fun _ => ?_)
     clear hK K
     try simp only [Act.put, pT_, pZ_, pS_]
     try rw [hw20]
     clear hw20
     refine wpAnyH_done (by kernel_rfl) ?_ _
     obtain ⟨x_0, x_1⟩ := kX10.g2
     obtain ⟨r_0, r_1, r_2, r_3⟩ := kR10.g4
     go_wp2
     have hmk := QV.make Hq.out (show xs.length < 16 by omega) (show nx < 100000 by omega) (kd := 1) (by omega) hK hk Hd.out s
     have hL2 : (addP xs[k].es s nx).1 = L := by rw [HP.out]
     have hq1 := HQ1.out Hf.out (by have := Hm.out; omega) (by omega)
     rw [hL2] at hq1
     refine bodyPost_ret (v := .tuple #[.agg #[.int .i64 (nx + 1), .slice (some ⟨D9, 0, none⟩) (xs.length + 1) d9], .agg #[.int .i64 0, .int .i64 nx, .string ⟨#[]⟩, .string ⟨#[]⟩]]) (by simp [results, Tryz.results168, go_sem, x_0, x_1, r_0, r_1, r_2, r_3]) rfl ⟨⟨_, ⟨nx + 1, ptE (xs ++ [(⟨nx, 1, 1, ⟨#[]⟩, []⟩ : InoD)]) k L⟩, _, _, _, _, rfl, hq1, .inr ⟨D9, d9, _, by rw [putE_len]; simp, Z10.more (by omega)⟩⟩, B10⟩

end Go.Proofs.YtjjniapamdleoaaGreatDoor
