/- PathDo of a file that is made or taken away: what the reference gives, word for word. -/
import Derived.Test.YtjjniapamdleoaaGreatDoorRCSvd
import Derived.Test.YtjjniapamdleoaaGreatDoorRCWkV3
namespace Go.Proofs.YtjjniapamdleoaaGreatDoor
open Go Go.RowKit
set_option maxHeartbeats 8000000
set_option maxRecDepth 100000

theorem l20Last_one (v : Value) (V : VolD) (sm : szV V <= 1048576) (hp : VolP V.nx V.xs) (s n : ByteArray) (hs : s.size <= 2000000) (hsp : spB s = ([n], true)) (w : World) (hC : IsVolC w v V) :
  Calls Tryz.prog 79 #[v, .string s] w fun e w' => e = .returned (.tuple #[.int .i64 1, .string n, .int .i64 0]) /\ Below w.heap.size w w' := by
 have Hsp := Lib.hid (fun W => splitPath_spec s hs W)
 simp only [hsp] at Hsp
 have Hwk := Lib.hid (fun An cn W hW hR => l20Walk_any v V sm hp [] (fun s hs => by cases hs) 0 rfl (by omega) An cn W hW hR)
 have hvv := Lib.hid hC
 obtain ⟨A, c, rfl, _⟩ := hC
 obtain ⟨nx, xs⟩ := V
 simp only [wkP] at Hwk ⊢
 clear hs hsp sm hp
 obtain ⟨W1, hW1⟩ : ∃ W1, w.alloc (.cells #[.int .i64 nx, .slice A xs.length c] 26) = W1 := ⟨_, rfl⟩
 have B1 : Below w.heap.size w W1 := by rw [<- hW1]; exact belA (bel0 w) _
 have kV1 : Blk W1 w.heap.size 26 #[.int .i64 nx, .slice A xs.length c] := by rw [<- hW1]; exact Blk.new' _ _ _ _ rfl
 have HW1 := Lib.hid hW1
 clear hW1
 go_enter Tryz.func79, Tryz.ntmps79
 go_wp2_with fail
 rw [HW1.out]
 clear HW1
 refine (Hsp.out W1).mono ?_
 rintro e w2 ⟨hb2, v2, rfl, ho2⟩
 simp only at ho2 ⊢
 obtain ⟨A2, c2, rfl, hc2, _⟩ := own_vals ho2
 have R2 := rd_of ho2
 obtain ⟨_, bl, ol, hA2, _, zl⟩ := reads_strF R2 (k := 0) (show 0 < [n].length from Nat.one_pos)
 subst hA2
 have B2 := belN B1 hb2
 have kV2 := kV1.below hb2 kV1.lt
 simp only [List.length_cons, List.length_nil, Nat.zero_add, List.getElem_cons_zero, Nat.add_zero] at zl ⊢
 simp only [List.length_cons, List.length_nil, Nat.zero_add] at hc2
 have c_0 : (0 : Int) <= (c2 : Int) := by omega
 have c_1 : (1 : Int) <= (c2 : Int) := by omega
 have c_2 : ¬ ((c2 : Int) < 0) := by omega
 have wn : IntKind.i64.wrap 0 = 0 := rfl
 obtain ⟨v_0, v_1⟩ := kV2.g2
 clear kV1 B1 hb2 ho2
 go_upto_region 4 with fail
 go_region_held3 (fun w' => w'.cell? ⟨w.heap.size, 0, none⟩ = some (.int .i64 nx) /\ w'.cell? ⟨w.heap.size, 1, none⟩ = some (.slice A xs.length c))
  (first | go_keep | (refine ⟨keep1 hb3 ?_, keep1 hb3 ?_⟩ <;> go_keep))
  (first | (go_at_call 50; refine (Hwk.out _ _ _ (hvv.out.next (belN B2 (bel0 w2).drew)) Reads.none_).mono ?_; rintro e w3 ⟨rfl, hb3⟩))
 have b3 := (bel0 w2).drew.trans (hb3.mono (bel0 w2).drew.size)
 have z3 := kp_ b3 zl
 go_wp2_with fail
 go_region
 all_goals
  go_wp2_with fail
  refine bodyPost_ret (v := .tuple #[.int .i64 1, .string n, .int .i64 0]) (by simp [results, Tryz.results79, go_sem]) rfl ?_
  exact ⟨rfl, belN B2 (b3.trans ((bel0 _).drew.mono b3.size))⟩

theorem pathDo_q (v : Value) (V : VolD) (K : Int) (sm : szV V <= 1048576) (hv : VolP V.nx V.xs) (hq : QV K V) (h1K : 1 <= K) (hKl : K <= 1000000) (kd : Int) (s n : ByteArray) (hs : s.size <= 2000000) (hsp : spB s = ([n], true)) (hkd : kd = 1 ∨ kd = 3) (Q : Int -> VolD -> Prop) (hQ0 : ∀ r, r ≠ 0 -> Q r V)
  (hQ1 : kd = 1 -> ∀ (k : Nat) (hk : k < V.xs.length), plc V.xs 1 = (k : Int) -> V.xs[k].kd = 2 -> V.xs[k].es.find? (isN n) = none -> V.xs[k].es.length < 12 -> V.nx < 100000 -> Q 0 ⟨V.nx + 1, ptE (V.xs ++ [(⟨V.nx, 1, 1, ⟨#[]⟩, []⟩ : InoD)]) k (addP V.xs[k].es n V.nx).1⟩)
  (hQ3 : kd = 3 -> ∀ (k : Nat) (hk : k < V.xs.length), plc V.xs 1 = (k : Int) -> ∀ (i : Nat) (hi : i < V.xs[k].es.length) (j : Nat) (hj : j < V.xs.length), V.xs[k].es.find? (isN n) = some V.xs[k].es[i] -> V.xs[j].id = V.xs[k].es[i].d -> V.xs[j].es = [] -> Q 0 ⟨V.nx, lessV (ptE V.xs k (dropP V.xs[k].es n).1) j V.xs[j].id (V.xs[j].ln - 1)⟩) (w : World) (hC : IsVolC w v V) :
  Calls Tryz.prog 34 #[v, .int .i64 kd, .string s, .string ⟨#[]⟩, .string ⟨#[]⟩] w fun e w' => VolPost w Q e w' /\ Below w.heap.size w w' := by
 have Hok := Lib.hid (fun W hW => volOk_spec v V sm W hW)
 have hok := volOkB_iff.2 hv
 simp only [hok] at Hok
 have Hla := Lib.hid (fun W hW => l20Last_one v V sm hv s n hs hsp W hW)
 have Hdo := Lib.hid (fun W hW => volDo_q v V K sm hv hq h1K hKl kd 1 n hkd Q hQ0 hQ1 hQ3 W hW)
 have hin : inI kd 1 8 = true := inI_true.2 (by omega)
 have t5 : (kd == 5) = false := beq_eq_false_iff_ne.2 (show kd ≠ 5 by omega)
 have t6 : (kd == 6) = false := beq_eq_false_iff_ne.2 (show kd ≠ 6 by omega)
 have t7 : (kd == 7) = false := beq_eq_false_iff_ne.2 (show kd ≠ 7 by omega)
 have Hin := Lib.hid hin
 have T5 := Lib.hid t5
 have T6 := Lib.hid t6
 have T7 := Lib.hid t7
 clear hin t5 t6 t7
 have hvv := Lib.hid hC
 obtain ⟨A, c, rfl, _⟩ := hC
 obtain ⟨nx, xs⟩ := V
 simp only at Hok Hla Hdo ⊢
 clear hv sm hok hq h1K hKl hkd hQ0 hQ1 hQ3 hs hsp
 obtain ⟨W1, hW1⟩ : ∃ W1, ((w.alloc (.cells #[.int .i64 nx, .slice A xs.length c] 26)).alloc (.cells #[.int .i64 0, .slice none 0 0] 26)).alloc (.cells #[.int .i64 0, .int .i64 0, .string ⟨#[]⟩, .string ⟨#[]⟩] 54) = W1 := ⟨_, rfl⟩
 have B1 : Below w.heap.size w W1 := by rw [<- hW1]; exact belA (belA (belA (bel0 w) _) _) _
 have kV1 : Blk W1 w.heap.size 26 #[.int .i64 nx, .slice A xs.length c] := by rw [<- hW1]; exact ((Blk.new' _ _ _ _ rfl).alloc _).alloc _
 have kX1 : Blk W1 (w.heap.size + 1) 26 #[.int .i64 0, .slice none 0 0] := by rw [<- hW1]; exact (Blk.new' _ _ _ _ (by simp)).alloc _
 have kR1 : Blk W1 (w.heap.size + 1 + 1) 54 #[.int .i64 0, .int .i64 0, .string ⟨#[]⟩, .string ⟨#[]⟩] := by rw [<- hW1]; exact Blk.new' _ _ _ _ (by simp)
 have HW1 := Lib.hid hW1
 clear hW1
 obtain ⟨v_0, v_1⟩ := kV1.g2
 go_enter Tryz.func34, Tryz.ntmps34
 go_wp2_with fail
 rw [HW1.out]
 clear HW1
 refine (Hok.out W1 (hvv.out.next B1)).mono ?_
 rintro e w2 ⟨rfl, hb2⟩
 have B2 := belN B1 hb2
 have kV2 := kV1.below hb2 kV1.lt
 have kX2 := kX1.below hb2 kX1.lt
 have kR2 := kR1.below hb2 kR1.lt
 clear v_0 v_1 kV1 kX1 kR1 B1 hb2
 have t5 := T5.out
 have t6 := T6.out
 go_wp2_with fail
 refine (l1In_any kd 1 8 _).mono ?_
 rintro e w3 ⟨rfl, hw3⟩
 subst hw3
 rw [Hin.out]
 have t7 := T7.out
 have t7' : (kd != 7) = true := by rw [bne, T7.out]; rfl
 obtain ⟨v_0, v_1⟩ := kV2.g2
 go_upto_region 7 with fail
 obtain ⟨pc, hpc⟩ : ∃ q, w2.heap.size = q := ⟨_, rfl⟩
 obtain ⟨w4, hw4⟩ : ∃ W, w2.alloc (.cells #[.int .i64 kd, .int .i64 0, .string ⟨#[]⟩, .int .i64 0, .string ⟨#[]⟩, .string ⟨#[]⟩] 95) = W := ⟨_, rfl⟩
 have b4 : Below w2.heap.size w2 w4 := by rw [<- hw4]; exact belA (bel0 w2) _
 have kC4 : Blk w4 pc 95 #[.int .i64 kd, .int .i64 0, .string ⟨#[]⟩, .int .i64 0, .string ⟨#[]⟩, .string ⟨#[]⟩] := by rw [<- hw4, <- hpc]; exact Blk.new' _ _ _ _ (by simp)
 have hpl : w.heap.size + 3 <= pc := by have := kR2.lt; omega
 have Hw4 := Lib.hid hw4
 have Hpc := Lib.hid hpc
 clear hw4 hpc
 try rw [Hpc.out]
 rw [Hw4.out]
 clear Hw4 Hpc v_0 v_1 t5 t6 t7 t7'
 have B4 := belN B2 b4
 have kV4 := kV2.below b4 kV2.lt
 have kX4 := kX2.below b4 kX2.lt
 have kR4 := kR2.below b4 kR2.lt
 clear kV2 kX2 kR2 B2 b4
 obtain ⟨v_0, v_1⟩ := kV4.g2
 go_wp2_with fail
 refine (Hla.out w4 (hvv.out.next B4)).mono ?_
 rintro e w5 ⟨rfl, hb5⟩
 have B5 := belN B4 hb5
 have kV5 := kV4.below hb5 kV4.lt
 have kX5 := kX4.below hb5 kX4.lt
 have kR5 := kR4.below hb5 kR4.lt
 have kC5 := kC4.below hb5 kC4.lt
 clear v_0 v_1 kV4 kX4 kR4 kC4 B4 hb5
 have c_1 := kC5.get 1 rfl
 have c_2 := kC5.get 2 rfl
 have cf1 := kC5.frozen 1
 have cf2 := kC5.frozen 2
 have cl := kC5.lt
 go_upto_region 18 with fail
 clear c_1 c_2 cf1 cf2 cl
 obtain ⟨w6, hw6⟩ : ∃ W, (w5.setCell ⟨pc, 1, none⟩ (.int .i64 1)).setCell ⟨pc, 2, none⟩ (.string n) = W := ⟨_, rfl⟩
 have kC6 : Blk w6 pc 95 #[.int .i64 kd, .int .i64 1, .string n, .int .i64 0, .string ⟨#[]⟩, .string ⟨#[]⟩] := by rw [<- hw6]; exact (kC5.put 1 (.int .i64 1) #[.int .i64 kd, .int .i64 1, .string ⟨#[]⟩, .int .i64 0, .string ⟨#[]⟩, .string ⟨#[]⟩] rfl).put 2 _ _ rfl
 have kV6 := (kV5.far (p := ⟨pc, 1, none⟩) (show w.heap.size ≠ pc by omega) (.int .i64 1)).far (p := ⟨pc, 2, none⟩) (show w.heap.size ≠ pc by omega) (.string n)
 have kX6 := (kX5.far (p := ⟨pc, 1, none⟩) (show w.heap.size + 1 ≠ pc by omega) (.int .i64 1)).far (p := ⟨pc, 2, none⟩) (show w.heap.size + 1 ≠ pc by omega) (.string n)
 have kR6 := (kR5.far (p := ⟨pc, 1, none⟩) (show w.heap.size + 1 + 1 ≠ pc by omega) (.int .i64 1)).far (p := ⟨pc, 2, none⟩) (show w.heap.size + 1 + 1 ≠ pc by omega) (.string n)
 have B6 := belC (belC B5 pc 1 (by omega) (.int .i64 1)) pc 2 (by omega) (.string n)
 rw [hw6] at kV6 kX6 kR6 B6 ⊢
 clear hw6 kV5 kX5 kR5 kC5 B5
 obtain ⟨v_0, v_1⟩ := kV6.g2
 obtain ⟨c_0, c_1, c_2, c_3, c_4, c_5⟩ := kC6.g6
 go_wp2_with fail
 refine (Hdo.out w6 (hvv.out.next B6)).mono ?_
 rintro e w7 ⟨⟨V9, g8, c8, r0, r1, r2, r3, rfl, hQ9, us9, hZ⟩, hb7⟩
 have HQ9 := Lib.hid hQ9
 clear hQ9
 have B7 := belN B6 hb7
 have kX7 := kX6.below hb7 kX6.lt
 have kR7 := kR6.below hb7 kR6.lt
 clear v_0 v_1 c_0 c_1 c_2 c_3 c_4 c_5
 have hl63 : w.heap.size + 3 <= w6.heap.size := by have := kR6.lt; omega
 clear kV6 kX6 kR6 kC6
 have hl67 := hb7.size
 have hl6 : w.heap.size <= w6.heap.size := B6.size
 obtain ⟨pX, hpX⟩ : ∃ q, w7.heap.size = q := ⟨_, rfl⟩
 obtain ⟨w8, hw8⟩ : ∃ W, (w7.alloc (.cells #[.int .i64 V9.nx, .slice (some ⟨g8, 0, none⟩) V9.xs.length c8] 26)).alloc (.cells #[.int .i64 r0, .int .i64 r1, .string r2, .string r3] 54) = W := ⟨_, rfl⟩
 have b8 : Below w7.heap.size w7 w8 := by rw [<- hw8]; exact belA (belA (bel0 w7) _) _
 have kP8 : Blk w8 pX 26 #[.int .i64 V9.nx, .slice (some ⟨g8, 0, none⟩) V9.xs.length c8] := by rw [<- hw8, <- hpX]; exact (Blk.new' _ _ _ _ rfl).alloc _
 have kQ8 : Blk w8 (pX + 1) 54 #[.int .i64 r0, .int .i64 r1, .string r2, .string r3] := by rw [<- hw8, <- hpX]; exact Blk.new' _ _ _ _ (by simp)
 have Hw8 := Lib.hid hw8
 have HpX := Lib.hid hpX
 have hpXl : w.heap.size + 3 <= pX := by have := kR7.lt; omega
 clear hw8 hpX
 go_upto_region 19 with fail
 try rw [HpX.out]
 rw [Hw8.out]
 clear Hw8 HpX
 have B8 := belN B7 b8
 have hZ8 := hZ.below b8
 have kX8 := kX7.below b8 kX7.lt
 have kR8 := kR7.below b8 kR7.lt
 clear kX7 kR7 B7 hZ b8
 obtain ⟨p_0, p_1⟩ := kP8.g2
 obtain ⟨q_0, q_1, q_2, q_3⟩ := kQ8.g4
 obtain ⟨x_0, x_1⟩ := kX8.g2
 obtain ⟨xf0, xf1⟩ := kX8.f2
 obtain ⟨z_0, z_1, z_2, z_3⟩ := kR8.g4
 obtain ⟨zf0, zf1, zf2, zf3⟩ := kR8.f4
 have xl := kX8.lt
 have zl := kR8.lt
 have pl := kP8.lt
 have ql := kQ8.lt
 have n1 : pX ≠ w.heap.size + 1 := by omega
 have n2 : pX ≠ w.heap.size + 1 + 1 := by omega
 have n3 : pX + 1 ≠ w.heap.size + 1 := by omega
 have n4 : pX + 1 ≠ w.heap.size + 1 + 1 := by omega
 have m1 := n1.symm
 have m2 := n2.symm
 have m3 := n3.symm
 have m4 := n4.symm
 go_region
 all_goals
  go_wp2
  refine bodyPost_ret (v := .tuple #[.agg #[.int .i64 V9.nx, .slice (some ⟨g8, 0, none⟩) V9.xs.length c8], .agg #[.int .i64 r0, .int .i64 r1, .string r2, .string r3]]) (by simp [results, Tryz.results34, go_sem, x_0, x_1, z_0, z_1, z_2, z_3]) rfl ⟨⟨V9, g8, c8, r0, r1, r2, r3, rfl, HQ9.out, us9, YR.more ?_ hl6⟩, ?_⟩
  ·refine YR.below ?_ (bel0 _).drew
   refine YR.farB ?_ (by omega) _ _
   refine YR.farB ?_ (by omega) _ _
   refine YR.farB ?_ (by omega) _ _
   refine YR.farB ?_ (by omega) _ _
   refine YR.farB ?_ (by omega) _ _
   refine YR.farB ?_ (by omega) _ _
   exact hZ8
  ·refine Below.drew ?_
   refine belC ?_ _ _ (by omega) _
   refine belC ?_ _ _ (by omega) _
   refine belC ?_ _ _ (by omega) _
   refine belC ?_ _ _ (by omega) _
   refine belC ?_ _ _ (by omega) _
   refine belC ?_ _ _ (by omega) _
   exact B8

end Go.Proofs.YtjjniapamdleoaaGreatDoor
