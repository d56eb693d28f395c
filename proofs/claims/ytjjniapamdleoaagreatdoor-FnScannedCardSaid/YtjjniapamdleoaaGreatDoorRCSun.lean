/- A file is taken away: what the reference gives, word for word. -/
import Derived.Test.YtjjniapamdleoaaGreatDoorRCSmk
import Derived.Test.YtjjniapamdleoaaGreatDoorRCL6W
namespace Go.Proofs.YtjjniapamdleoaaGreatDoor
open Go Go.RowKit
set_option maxHeartbeats 8000000
set_option maxRecDepth 100000

theorem mem4_nnwU {G P : (Nat) -> (Nat) -> (World) -> Prop} {R : Prop} (use : (∀ (x0 : Nat) (x1 : Nat) (x2 : World), P x0 x1 x2 -> G x0 x1 x2) -> R) (key : ∀ (x0 : Nat) (x1 : Nat) (x2 : World), P x0 x1 x2 -> G x0 x1 x2) : R := use key
theorem mem4_nwU {G P : (Nat) -> (World) -> Prop} {R : Prop} (use : (∀ (x0 : Nat) (x1 : World), P x0 x1 -> G x0 x1) -> R) (key : ∀ (x0 : Nat) (x1 : World), P x0 x1 -> G x0 x1) : R := use key
theorem l6Unl_q (v : Value) (V : VolD) (K : Int) (hq : QV K V) (a : Int) (s : ByteArray) (tg : Int) (nm dt : ByteArray) (hs : s.size <= 24) (hKl : K <= 1000000) (kd : Int) (h3 : kd = 3) (k : Nat) (hk : k < V.xs.length) (hp : plc V.xs a = (k : Int)) (Q : Int -> VolD -> Prop) (hQ0 : ∀ r, r ≠ 0 -> Q r V) (hQ1 : ∀ (i : Nat) (hi : i < V.xs[k].es.length) (j : Nat) (hj : j < V.xs.length), V.xs[k].es.find? (isN s) = some V.xs[k].es[i] -> V.xs[j].id = V.xs[k].es[i].d -> V.xs[j].es = [] -> Q 0 ⟨V.nx, lessV (ptE V.xs k (dropP V.xs[k].es s).1) j V.xs[j].id (V.xs[j].ln - 1)⟩) (w : World) (hC : IsVolC w v V) :
  Calls Tryz.prog 169 #[v, .agg #[.int .i64 kd, .int .i64 a, .string s, .int .i64 tg, .string nm, .string dt]] w fun e w' => CallQ w v V Q e w' /\ Below w.heap.size w w' := by
 have H3 := Lib.hid h3
 clear h3
 have HQ0 := Lib.hid hQ0
 have HQ1 := Lib.hid hQ1
 clear hQ0 hQ1
 have hn := hq.len
 have hnm := hq.names hk
 have Hen := Lib.hid (fun W hW => l6Ents_rd v V (by omega) a k hk hp W hW)
 have Hat := Lib.hid (fun b W hW => l6At_any v V (by omega) b W hW)
 have Hcp := Lib.hid (fun W hW => l6Copy_own v V (by omega) (by omega) (fun x hx => by have := (hq.sm.2 x hx).1; omega) W hW)
 have Hq := Lib.hid hq
 have Hqm := Lib.hid (hq.mono (show K <= K + 1 by omega))
 have Hp := Lib.hid hp
 have hvv := Lib.hid hC
 obtain ⟨A, c, rfl, hva⟩ := hC.is
 obtain ⟨nx, xs⟩ := V
 simp only at Hen Hat Hcp hnm hn hk Hp hva HQ0 HQ1 ⊢
 have Hva := Lib.hid hva
 have Hnm := Lib.hid hnm.2
 have hm12 := hnm.1
 clear hC hp hq hnm hva
 obtain ⟨m, hm⟩ : ∃ m, xs[k].es.length = m := ⟨_, rfl⟩
 have Hm := Lib.hid hm
 simp only [hm] at Hen hm12
 clear hm
 obtain ⟨w1, hW1⟩ : ∃ W, ((((w.alloc (.cells #[.int .i64 nx, .slice A xs.length c] 26)).alloc (.cells #[.int .i64 kd, .int .i64 a, .string s, .int .i64 tg, .string nm, .string dt] 95)).alloc (.cells #[.int .i64 0, .slice none 0 0] 26)).alloc (.cells #[.int .i64 0, .int .i64 0, .string ⟨#[]⟩, .string ⟨#[]⟩] 54)) = W := ⟨_, rfl⟩
 have BW1 : Below w.heap.size w w1 := by rw [<- hW1]; exact belA (belA (belA (belA (bel0 w) _) _) _) _
 have kV1 : Blk w1 w.heap.size 26 #[.int .i64 nx, .slice A xs.length c] := by rw [<- hW1]; exact ((((Blk.new' _ _ _ _ (by simp)).alloc _).alloc _).alloc _)
 have kC1 : Blk w1 (w.heap.size + 1) 95 #[.int .i64 kd, .int .i64 a, .string s, .int .i64 tg, .string nm, .string dt] := by rw [<- hW1]; exact (((Blk.new' _ _ _ _ (by simp)).alloc _).alloc _)
 have kX1 : Blk w1 (w.heap.size + 1 + 1) 26 #[.int .i64 0, .slice none 0 0] := by rw [<- hW1]; exact ((Blk.new' _ _ _ _ (by simp)).alloc _)
 have kR1 : Blk w1 (w.heap.size + 1 + 1 + 1) 54 #[.int .i64 0, .int .i64 0, .string ⟨#[]⟩, .string ⟨#[]⟩] := by rw [<- hW1]; exact (Blk.new' _ _ _ _ (by simp))
 have s1 : w1.heap.size = w.heap.size + 4 := by rw [<- hW1]; simp
 have HW1 := Lib.hid hW1
 have S1 := Lib.hid s1
 clear hW1 s1
 obtain ⟨v_0, v_1⟩ := kV1.g2
 obtain ⟨c_0, c_1, c_2, c_3, c_4, c_5⟩ := kC1.g6
 go_enter Tryz.func169, Tryz.ntmps169
 go_wp2_with fail
 rw [HW1.out]
 clear HW1
 go_region_held3 (fun w' => w'.cell? ⟨w.heap.size, 0, none⟩ = some (.int .i64 nx) /\ w'.cell? ⟨w.heap.size, 1, none⟩ = some (.slice A xs.length c) /\ w'.cell? ⟨(w.heap.size + 1), 1, none⟩ = some (.int .i64 a) /\ w'.cell? ⟨(w.heap.size + 1), 2, none⟩ = some (.string s))
  (first | go_keep | (refine ⟨keep1 hb5 ?_, keep1 hb5 ?_, keep1 hb5 ?_, keep1 hb5 ?_⟩ <;> go_keep) | (refine ⟨keep1 hb6 ?_, keep1 hb6 ?_, keep1 hb6 ?_, keep1 hb6 ?_⟩ <;> go_keep))
  (first
   | (go_at_call 220; refine (Hen.out _ (hvv.out.next BW1.drew)).mono ?_; rintro e w5 ⟨A5, c5, rfl, hr5, hb5⟩)
   | (go_at_call 219; refine (l5At_any A5 m c5 _ Hnm.out (by omega) s (by omega) _ ((hr5.below hb5).more hb5.size)).mono ?_; rintro e w6 ⟨r, rfl, hidx, hb6⟩))
 clear v_0 v_1 c_0 c_1 c_2 c_3 c_4 c_5
 have b6 : Below w1.heap.size w1 w6 := (Below.refl w1.heap.size w1).drew.trans (hb5.trans (hb6.mono hb5.size))
 have B6 := belN BW1 b6
 have kV6 := kV1.below b6 kV1.lt
 have kC6 := kC1.below b6 kC1.lt
 have kX6 := kX1.below b6 kX1.lt
 have kR6 := kR1.below b6 kR1.lt
 clear kV1 kC1 kX1 kR1
 have b6s : w.heap.size + 4 <= w6.heap.size := by have := b6.size; have := S1.out; omega
 clear hr5 b6 hb5 hb6 BW1
 have Hq0 := Hq
 rcases hidx with ⟨rfl, hf⟩ | ⟨i, hi, rfl, hf⟩
 ·clear hf
  obtain ⟨v_0, v_1⟩ := kV6.g2
  obtain ⟨x_0, x_1⟩ := kX6.g2
  obtain ⟨r_0, r_1, r_2, r_3⟩ := kR6.g4
  obtain ⟨xf0, xf1⟩ := kX6.f2
  have xl := kX6.lt
  obtain ⟨rf0, rf1, rf2, rf3⟩ := kR6.f4
  have rl := kR6.lt
  go_wp2
  refine foldBPL ?_
  intro wf hwf
  obtain ⟨hX, hR, hB⟩ : Blk wf (w.heap.size + 1 + 1) 26 #[.int .i64 nx, .slice A xs.length c] /\ Blk wf (w.heap.size + 1 + 1 + 1) 54 #[.int .i64 2, .int .i64 0, .string ⟨#[]⟩, .string ⟨#[]⟩] /\ Below w.heap.size w wf := by
   rw [hwf]
   first
    | exact two_putL _ _ _ _ _ _ kX6 kR6 (by omega) B6 (by omega) (by omega)
    | exact two_putL _ _ _ _ _ _ kX6.drew kR6.drew (by omega) B6.drew (by omega) (by omega)
  clear hwf x_0 x_1 r_0 r_1 r_2 r_3
  obtain ⟨x_0, x_1⟩ := hX.g2
  obtain ⟨r_0, r_1, r_2, r_3⟩ := hR.g4
  refine bodyPost_ret (v := .tuple #[.agg #[.int .i64 nx, .slice A xs.length c], .agg #[.int .i64 2, .int .i64 0, .string ⟨#[]⟩, .string ⟨#[]⟩]]) (by simp [results, Tryz.results169, go_sem, x_0, x_1, r_0, r_1, r_2, r_3]) rfl ⟨⟨_, _, _, _, _, _, rfl, HQ0.out _ (by decide), .inl ⟨rfl, rfl⟩⟩, hB⟩
 have Hf := Lib.hid hf
 have him : i < m := by have := Hm.out; omega
 have q0 : ¬ ((i : Int) < 0) := by omega
 have q1 : (0 : Int) <= (i : Int) := by omega
 have q2 : (i : Int) < (m : Int) := by omega
 clear hf
 obtain ⟨v_0, v_1⟩ := kV6.g2
 obtain ⟨c_0, c_1, c_2, c_3, c_4, c_5⟩ := kC6.g6
 go_wp2_with fail
 refine (Hen.out w6 (hvv.out.next B6)).mono ?_
 rintro e w7 ⟨A7, c7, rfl, hr7, hb7⟩
 clear v_0 v_1 c_0 c_1 c_2 c_3 c_4 c_5
 have B7 := belN B6 hb7
 have b7s := hb7.size
 have kV7 := kV6.below hb7 kV6.lt
 have kC7 := kC6.below hb7 kC6.lt
 have kX7 := kX6.below hb7 kX6.lt
 have kR7 := kR6.below hb7 kR6.lt
 clear kV6 kC6 kX6 kR6
 obtain ⟨_, b4, o4, hA7, _, e0, e1, e2, e3⟩ := reads_ent (hr7.below hb7) him
 subst hA7
 obtain ⟨E, hE⟩ : ∃ E, xs[k].es[i] = E := ⟨_, rfl⟩
 have HE := Lib.hid hE
 rw [hE] at e0 e1 e2 e3
 clear hE hr7
 obtain ⟨j, hj, hpj, hij, hne1⟩ := Hq.out.found (List.getElem_mem hk) (List.getElem_mem hi)
 simp only [HE.out] at hpj hij hne1
 obtain ⟨eh, ei, en, ed⟩ := E
 simp only at e0 e1 e2 e3 hpj hij hne1
 obtain ⟨pe, hpe⟩ : ∃ q, w7.heap.size = q := ⟨_, rfl⟩
 obtain ⟨w8, hw8⟩ : ∃ W, w7.alloc (.cells #[.int .i64 eh, .int .i64 ei, .string en, .int .i64 ed] 38) = W := ⟨_, rfl⟩
 have kE8 : Blk w8 pe 38 #[.int .i64 eh, .int .i64 ei, .string en, .int .i64 ed] := by rw [<- hw8, <- hpe]; exact Blk.new' _ _ _ _ (by simp)
 have a8 : Below w7.heap.size w7 w8 := by rw [<- hw8]; exact belA (bel0 _) _
 have hpe1 : w.heap.size + 4 <= pe := by omega
 have Hw8 := Lib.hid hw8
 have Hpe := Lib.hid hpe
 have B8 := belN B7 a8
 clear hw8 hpe
 have kV8 := kV7.below a8 kV7.lt
 have kC8 := kC7.below a8 kC7.lt
 have kX8 := kX7.below a8 kX7.lt
 have kR8 := kR7.below a8 kR7.lt
 clear kV7 kC7 kX7 kR7
 go_upto_region 5 with fail
 try rw [Hpe.out]
 rw [Hw8.out]
 clear Hw8 Hpe a8 e0 e1 e2 e3
 have HAt2 := Lib.hid (fun W hW => Hat.out ed W hW)
 simp only [hpj] at HAt2
 obtain ⟨_, b, of_, Ax, cx, rfl, hbw, z0, z1, z2, z3, z4, hrx⟩ := (Hva.out.below B8).at_ hj
 obtain ⟨x, hx⟩ : ∃ x, xs[j] = x := ⟨_, rfl⟩
 have HX := Lib.hid hx
 rw [hx] at z0 z1 z2 z3 z4 hrx hij
 clear hx
 obtain ⟨xid, xkd, xln, xs_, xes⟩ := x
 simp only at z0 z1 z2 z3 z4 hrx hij
 obtain ⟨mx, hmx⟩ : ∃ q, xes.length = q := ⟨_, rfl⟩
 have Hmx := Lib.hid hmx
 rw [hmx] at z4 hrx
 clear hmx hrx
 have j0 : (0 : Int) <= (j : Int) := by omega
 have j1 : (j : Int) < ((xs.length : Nat) : Int) := by omega
 have HJ := Lib.hid (And.intro hpj (And.intro hij hne1))
 clear hpj hij hne1
 obtain ⟨g0, hg0⟩ : ∃ g0, g0 = w8.heap.size := ⟨_, rfl⟩
 have hle : w.heap.size + 4 <= w8.heap.size /\ pe < w8.heap.size := ⟨by have := kR8.lt; omega, kE8.lt⟩
 refine wp_region_held_drew (S := fun w' => w'.cell? ⟨w.heap.size, 0, none⟩ = some (.int .i64 nx) /\ w'.cell? ⟨w.heap.size, 1, none⟩ = some (.slice (some ⟨b, of_, none⟩) xs.length c) /\ w'.cell? ⟨pe, 3, none⟩ = some (.int .i64 ed) /\ World.cell? w' ⟨b, of_ + j * 5, none⟩ = some (.int .i64 xid) /\ World.cell? w' ⟨b, of_ + j * 5 + 1, none⟩ = some (.int .i64 xkd) /\ World.cell? w' ⟨b, of_ + j * 5 + 2, none⟩ = some (.int .i64 xln) /\ World.cell? w' ⟨b, of_ + j * 5 + 3, none⟩ = some (.string xs_) /\ World.cell? w' ⟨b, of_ + j * 5 + 4, none⟩ = some (.slice Ax mx cx)) (by kernel_rfl) (by exact ⟨kV8.get 0 rfl, kV8.get 1 rfl, kE8.get 3 rfl, z0, z1, z2, z3, z4⟩) (fun hHeld => ?_)
 clear hHeld
 refine foldH ?_
 intro r hr0
 have bw : w8.grownBy r (some g0) := by rw [hr0]; exact gb_below (grown_refl _ _) (bel0 w8).drew
 have kV : Blk r w.heap.size 26 #[.int .i64 nx, .slice (some ⟨b, of_, none⟩) xs.length c] := by rw [hr0]; exact kV8.drew
 have kC : Blk r (w.heap.size + 1) 95 #[.int .i64 kd, .int .i64 a, .string s, .int .i64 tg, .string nm, .string dt] := by rw [hr0]; exact kC8.drew
 have kE : Blk r pe 38 #[.int .i64 eh, .int .i64 ei, .string en, .int .i64 ed] := by rw [hr0]; exact kE8.drew
 have kX : Blk r (w.heap.size + 1 + 1) 26 #[.int .i64 0, .slice none 0 0] := by rw [hr0]; exact kX8.drew
 have kR : Blk r (w.heap.size + 1 + 1 + 1) 54 #[.int .i64 0, .int .i64 0, .string ⟨#[]⟩, .string ⟨#[]⟩] := by rw [hr0]; exact kR8.drew
 have pZ : (World.cell? r ⟨b, of_ + j * 5, none⟩ = some (.int .i64 xid) /\ World.cell? r ⟨b, of_ + j * 5 + 1, none⟩ = some (.int .i64 xkd) /\ World.cell? r ⟨b, of_ + j * 5 + 2, none⟩ = some (.int .i64 xln) /\ World.cell? r ⟨b, of_ + j * 5 + 3, none⟩ = some (.string xs_) /\ World.cell? r ⟨b, of_ + j * 5 + 4, none⟩ = some (.slice Ax mx cx)) := by rw [hr0]; exact ⟨keep1 (bel0 w8).drew z0, keep1 (bel0 w8).drew z1, keep1 (bel0 w8).drew z2, keep1 (bel0 w8).drew z3, keep1 (bel0 w8).drew z4⟩
 clear hr0
 apply mem4_nwU (P := fun aI q => w8.grownBy q (some g0) /\ Blk q (w.heap.size + 1) 95 #[.int .i64 kd, .int .i64 a, .string s, .int .i64 tg, .string nm, .string dt] /\ Blk q pe 38 #[.int .i64 eh, .int .i64 ei, .string en, .int .i64 ed] /\ Blk q aI 36 #[.int .i64 0, .int .i64 0, .int .i64 0, .string ⟨#[]⟩, .slice none 0 0] /\ Blk q (w.heap.size + 1 + 1 + 1) 54 #[.int .i64 0, .int .i64 0, .string ⟨#[]⟩, .string ⟨#[]⟩] /\ Blk q w.heap.size 26 #[.int .i64 nx, .slice (some ⟨b, of_, none⟩) xs.length c] /\ Blk q (w.heap.size + 1 + 1) 26 #[.int .i64 0, .slice none 0 0] /\ (World.cell? q ⟨b, of_ + j * 5, none⟩ = some (.int .i64 xid) /\ World.cell? q ⟨b, of_ + j * 5 + 1, none⟩ = some (.int .i64 xkd) /\ World.cell? q ⟨b, of_ + j * 5 + 2, none⟩ = some (.int .i64 xln) /\ World.cell? q ⟨b, of_ + j * 5 + 3, none⟩ = some (.string xs_) /\ World.cell? q ⟨b, of_ + j * 5 + 4, none⟩ = some (.slice Ax mx cx)) /\ w8.heap.size <= aI)
 case use =>
  intro key_on_5_8
  apply mem4_nwU (P := fun aI q => w8.grownBy q (some g0) /\ Blk q (w.heap.size + 1) 95 #[.int .i64 kd, .int .i64 a, .string s, .int .i64 tg, .string nm, .string dt] /\ Blk q pe 38 #[.int .i64 eh, .int .i64 ei, .string en, .int .i64 ed] /\ Blk q aI 36 #[.int .i64 0, .int .i64 0, .int .i64 0, .string ⟨#[]⟩, .slice none 0 0] /\ Blk q (w.heap.size + 1 + 1 + 1) 54 #[.int .i64 0, .int .i64 0, .string ⟨#[]⟩, .string ⟨#[]⟩] /\ Blk q w.heap.size 26 #[.int .i64 nx, .slice (some ⟨b, of_, none⟩) xs.length c] /\ Blk q (w.heap.size + 1 + 1) 26 #[.int .i64 0, .slice none 0 0] /\ (World.cell? q ⟨b, of_ + j * 5, none⟩ = some (.int .i64 xid) /\ World.cell? q ⟨b, of_ + j * 5 + 1, none⟩ = some (.int .i64 xkd) /\ World.cell? q ⟨b, of_ + j * 5 + 2, none⟩ = some (.int .i64 xln) /\ World.cell? q ⟨b, of_ + j * 5 + 3, none⟩ = some (.string xs_) /\ World.cell? q ⟨b, of_ + j * 5 + 4, none⟩ = some (.slice Ax mx cx)) /\ w8.heap.size <= aI)
  case use =>
   intro key_on_8
   apply mem4_w (P := fun  q => w8.grownBy q (some g0) /\ Blk q (w.heap.size + 1) 95 #[.int .i64 kd, .int .i64 a, .string s, .int .i64 tg, .string nm, .string dt] /\ Blk q pe 38 #[.int .i64 eh, .int .i64 ei, .string en, .int .i64 ed] /\ Blk q (w.heap.size + 1 + 1 + 1) 54 #[.int .i64 0, .int .i64 0, .string ⟨#[]⟩, .string ⟨#[]⟩] /\ Blk q w.heap.size 26 #[.int .i64 nx, .slice (some ⟨b, of_, none⟩) xs.length c] /\ Blk q (w.heap.size + 1 + 1) 26 #[.int .i64 0, .slice none 0 0] /\ (World.cell? q ⟨b, of_ + j * 5, none⟩ = some (.int .i64 xid) /\ World.cell? q ⟨b, of_ + j * 5 + 1, none⟩ = some (.int .i64 xkd) /\ World.cell? q ⟨b, of_ + j * 5 + 2, none⟩ = some (.int .i64 xln) /\ World.cell? q ⟨b, of_ + j * 5 + 3, none⟩ = some (.string xs_) /\ World.cell? q ⟨b, of_ + j * 5 + 4, none⟩ = some (.slice Ax mx cx)))
   case use =>
    intro key_on_5
    refine tkW_ 0 ?_ (hS := by exact ⟨kV.get 0 rfl, kV.get 1 rfl, kE.get 3 rfl, pZ.1, pZ.2.1, pZ.2.2.1, pZ.2.2.2.1, pZ.2.2.2.2⟩)
    refine tkW_ 1 ?_ (hS := by exact ⟨kV.get 0 rfl, kV.get 1 rfl, kE.get 3 rfl, pZ.1, pZ.2.1, pZ.2.2.1, pZ.2.2.2.1, pZ.2.2.2.2⟩)
    refine tkW_ 2 ?_ (hS := by exact ⟨kV.get 0 rfl, kV.get 1 rfl, kE.get 3 rfl, pZ.1, pZ.2.1, pZ.2.2.1, pZ.2.2.2.1, pZ.2.2.2.2⟩)
    refine tkW_ 3 ?_ (hS := by exact ⟨kV.get 0 rfl, kV.get 1 rfl, kE.get 3 rfl, pZ.1, pZ.2.1, pZ.2.2.1, pZ.2.2.2.1, pZ.2.2.2.2⟩)
    refine tkW_ 4 ?_ (hS := by exact ⟨kV.get 0 rfl, kV.get 1 rfl, kE.get 3 rfl, pZ.1, pZ.2.1, pZ.2.2.1, pZ.2.2.2.1, pZ.2.2.2.2⟩)
    refine rd2_ 5 8 (fun K hK => ?br5006) (fun K hK => ?br5007)
    case br5006 =>
     go_simp
     go_at_call 54
     refine (HAt2.out _ (hvv.out.next (belG B8 bw (by omega))).is).mono ?_
     rintro e q ⟨rfl, hb⟩
     have bw2 := gb_below bw hb
     have kV2 := kV.below hb kV.lt
     have kC2 := kC.below hb kC.lt
     have kE2 := kE.below hb kE.lt
     have kX2 := kX.below hb kX.lt
     have kR2 := kR.below hb kR.lt
     have pZ2 : (World.cell? q ⟨b, of_ + j * 5, none⟩ = some (.int .i64 xid) /\ World.cell? q ⟨b, of_ + j * 5 + 1, none⟩ = some (.int .i64 xkd) /\ World.cell? q ⟨b, of_ + j * 5 + 2, none⟩ = some (.int .i64 xln) /\ World.cell? q ⟨b, of_ + j * 5 + 3, none⟩ = some (.string xs_) /\ World.cell? q ⟨b, of_ + j * 5 + 4, none⟩ = some (.slice Ax mx cx)) := ⟨keep1 hb pZ.1, keep1 hb pZ.2.1, keep1 hb pZ.2.2.1, keep1 hb pZ.2.2.2.1, keep1 hb pZ.2.2.2.2⟩
     refine hK.out _ _ (by exact ⟨kV2.get 0 rfl, kV2.get 1 rfl, kE2.get 3 rfl, pZ2.1, pZ2.2.1, pZ2.2.2.1, pZ2.2.2.2.1, pZ2.2.2.2.2⟩) (fun _ => ?_)
     clear hK K
     try simp only [Act.put, pT_, pZ_, pS_]
     refine tkW_ 6 ?_ (hS := by exact ⟨kV2.get 0 rfl, kV2.get 1 rfl, kE2.get 3 rfl, pZ2.1, pZ2.2.1, pZ2.2.2.1, pZ2.2.2.2.1, pZ2.2.2.2.2⟩)
     refine tkW_ 7 ?_ (hS := by exact ⟨kV2.get 0 rfl, kV2.get 1 rfl, kE2.get 3 rfl, pZ2.1, pZ2.2.1, pZ2.2.2.1, pZ2.2.2.2.1, pZ2.2.2.2.2⟩)
     exact key_on_5  q ⟨bw2, kC2, kE2, kR2, kV2, kX2, pZ2⟩
    case br5007 =>
     go_simp
     refine hK.out _ _ (by exact ⟨(kV.alloc _).get 0 rfl, (kV.alloc _).get 1 rfl, (kE.alloc _).get 3 rfl, keep1 (belA (bel0 _) _) pZ.1, keep1 (belA (bel0 _) _) pZ.2.1, keep1 (belA (bel0 _) _) pZ.2.2.1, keep1 (belA (bel0 _) _) pZ.2.2.2.1, keep1 (belA (bel0 _) _) pZ.2.2.2.2⟩) (fun _ => ?_)
     clear hK K
     try simp only [Act.put, pT_, pZ_, pS_]
     refine foldH ?_
     intro q hq
     obtain ⟨aI, ha⟩ : ∃ g, r.heap.size = g := ⟨_, rfl⟩
     rw [ha]
     have bw2 : w8.grownBy q (some g0) := by rw [hq]; exact gb_below bw (belA (bel0 r) (.cells #[.int .i64 0, .int .i64 0, .int .i64 0, .string ⟨#[]⟩, .slice none 0 0] 36))
     have kV2 : Blk q _ _ _ := hq ▸ kV.alloc (.cells #[.int .i64 0, .int .i64 0, .int .i64 0, .string ⟨#[]⟩, .slice none 0 0] 36)
     have kC2 : Blk q _ _ _ := hq ▸ kC.alloc (.cells #[.int .i64 0, .int .i64 0, .int .i64 0, .string ⟨#[]⟩, .slice none 0 0] 36)
     have kE2 : Blk q _ _ _ := hq ▸ kE.alloc (.cells #[.int .i64 0, .int .i64 0, .int .i64 0, .string ⟨#[]⟩, .slice none 0 0] 36)
     have kX2 : Blk q _ _ _ := hq ▸ kX.alloc (.cells #[.int .i64 0, .int .i64 0, .int .i64 0, .string ⟨#[]⟩, .slice none 0 0] 36)
     have kR2 : Blk q _ _ _ := hq ▸ kR.alloc (.cells #[.int .i64 0, .int .i64 0, .int .i64 0, .string ⟨#[]⟩, .slice none 0 0] 36)
     have pZ2 : (World.cell? q ⟨b, of_ + j * 5, none⟩ = some (.int .i64 xid) /\ World.cell? q ⟨b, of_ + j * 5 + 1, none⟩ = some (.int .i64 xkd) /\ World.cell? q ⟨b, of_ + j * 5 + 2, none⟩ = some (.int .i64 xln) /\ World.cell? q ⟨b, of_ + j * 5 + 3, none⟩ = some (.string xs_) /\ World.cell? q ⟨b, of_ + j * 5 + 4, none⟩ = some (.slice Ax mx cx)) := by rw [hq]; exact ⟨keep1 (belA (bel0 _) _) pZ.1, keep1 (belA (bel0 _) _) pZ.2.1, keep1 (belA (bel0 _) _) pZ.2.2.1, keep1 (belA (bel0 _) _) pZ.2.2.2.1, keep1 (belA (bel0 _) _) pZ.2.2.2.2⟩
     have kI2 : Blk q aI 36 #[.int .i64 0, .int .i64 0, .int .i64 0, .string ⟨#[]⟩, .slice none 0 0] := by rw [hq, <- ha]; exact Blk.new' _ _ _ _ rfl
     have laI : w8.heap.size <= aI := by rw [<- ha]; exact bw.size
     exact key_on_8 aI q ⟨bw2, kC2, kE2, kI2, kR2, kV2, kX2, pZ2, laI⟩
   case key =>
    rintro  r ⟨bw, kC, kE, kR, kV, kX, pZ⟩
    try dsimp only
    refine rd1_ 8 (fun K hK => ?br5010)
    case br5010 =>
     go_simp
     refine hK.out _ _ (by exact ⟨(kV.alloc _).get 0 rfl, (kV.alloc _).get 1 rfl, (kE.alloc _).get 3 rfl, keep1 (belA (bel0 _) _) pZ.1, keep1 (belA (bel0 _) _) pZ.2.1, keep1 (belA (bel0 _) _) pZ.2.2.1, keep1 (belA (bel0 _) _) pZ.2.2.2.1, keep1 (belA (bel0 _) _) pZ.2.2.2.2⟩) (fun _ => ?_)
     clear hK K
     try simp only [Act.put, pT_, pZ_, pS_]
     refine foldH ?_
     intro q hq
     obtain ⟨aI, ha⟩ : ∃ g, r.heap.size = g := ⟨_, rfl⟩
     rw [ha]
     have bw2 : w8.grownBy q (some g0) := by rw [hq]; exact gb_below bw (belA (bel0 r) (.cells #[.int .i64 0, .int .i64 0, .int .i64 0, .string ⟨#[]⟩, .slice none 0 0] 36))
     have kV2 : Blk q _ _ _ := hq ▸ kV.alloc (.cells #[.int .i64 0, .int .i64 0, .int .i64 0, .string ⟨#[]⟩, .slice none 0 0] 36)
     have kC2 : Blk q _ _ _ := hq ▸ kC.alloc (.cells #[.int .i64 0, .int .i64 0, .int .i64 0, .string ⟨#[]⟩, .slice none 0 0] 36)
     have kE2 : Blk q _ _ _ := hq ▸ kE.alloc (.cells #[.int .i64 0, .int .i64 0, .int .i64 0, .string ⟨#[]⟩, .slice none 0 0] 36)
     have kX2 : Blk q _ _ _ := hq ▸ kX.alloc (.cells #[.int .i64 0, .int .i64 0, .int .i64 0, .string ⟨#[]⟩, .slice none 0 0] 36)
     have kR2 : Blk q _ _ _ := hq ▸ kR.alloc (.cells #[.int .i64 0, .int .i64 0, .int .i64 0, .string ⟨#[]⟩, .slice none 0 0] 36)
     have pZ2 : (World.cell? q ⟨b, of_ + j * 5, none⟩ = some (.int .i64 xid) /\ World.cell? q ⟨b, of_ + j * 5 + 1, none⟩ = some (.int .i64 xkd) /\ World.cell? q ⟨b, of_ + j * 5 + 2, none⟩ = some (.int .i64 xln) /\ World.cell? q ⟨b, of_ + j * 5 + 3, none⟩ = some (.string xs_) /\ World.cell? q ⟨b, of_ + j * 5 + 4, none⟩ = some (.slice Ax mx cx)) := by rw [hq]; exact ⟨keep1 (belA (bel0 _) _) pZ.1, keep1 (belA (bel0 _) _) pZ.2.1, keep1 (belA (bel0 _) _) pZ.2.2.1, keep1 (belA (bel0 _) _) pZ.2.2.2.1, keep1 (belA (bel0 _) _) pZ.2.2.2.2⟩
     have kI2 : Blk q aI 36 #[.int .i64 0, .int .i64 0, .int .i64 0, .string ⟨#[]⟩, .slice none 0 0] := by rw [hq, <- ha]; exact Blk.new' _ _ _ _ rfl
     have laI : w8.heap.size <= aI := by rw [<- ha]; exact bw.size
     exact key_on_5_8 aI q ⟨bw2, kC2, kE2, kI2, kR2, kV2, kX2, pZ2, laI⟩
  case key =>
   rintro aI r ⟨bw, kC, kE, kI, kR, kV, kX, pZ, laI⟩
   try dsimp only
   refine rd1_ 5 (fun K hK => ?br5011)
   case br5011 =>
    go_simp
    go_at_call 54
    refine (HAt2.out _ (hvv.out.next (belG B8 bw (by omega))).is).mono ?_
    rintro e q ⟨rfl, hb⟩
    have bw2 := gb_below bw hb
    have kV2 := kV.below hb kV.lt
    have kC2 := kC.below hb kC.lt
    have kE2 := kE.below hb kE.lt
    have kX2 := kX.below hb kX.lt
    have kR2 := kR.below hb kR.lt
    have kI2 := kI.below hb kI.lt
    have pZ2 : (World.cell? q ⟨b, of_ + j * 5, none⟩ = some (.int .i64 xid) /\ World.cell? q ⟨b, of_ + j * 5 + 1, none⟩ = some (.int .i64 xkd) /\ World.cell? q ⟨b, of_ + j * 5 + 2, none⟩ = some (.int .i64 xln) /\ World.cell? q ⟨b, of_ + j * 5 + 3, none⟩ = some (.string xs_) /\ World.cell? q ⟨b, of_ + j * 5 + 4, none⟩ = some (.slice Ax mx cx)) := ⟨keep1 hb pZ.1, keep1 hb pZ.2.1, keep1 hb pZ.2.2.1, keep1 hb pZ.2.2.2.1, keep1 hb pZ.2.2.2.2⟩
    refine hK.out _ _ (by exact ⟨kV2.get 0 rfl, kV2.get 1 rfl, kE2.get 3 rfl, pZ2.1, pZ2.2.1, pZ2.2.2.1, pZ2.2.2.2.1, pZ2.2.2.2.2⟩) (fun _ => ?_)
    clear hK K
    try simp only [Act.put, pT_, pZ_, pS_]
    refine tkW_ 6 ?_ (hS := by exact ⟨kV2.get 0 rfl, kV2.get 1 rfl, kE2.get 3 rfl, pZ2.1, pZ2.2.1, pZ2.2.2.1, pZ2.2.2.2.1, pZ2.2.2.2.2⟩)
    refine tkW_ 7 ?_ (hS := by exact ⟨kV2.get 0 rfl, kV2.get 1 rfl, kE2.get 3 rfl, pZ2.1, pZ2.2.1, pZ2.2.2.1, pZ2.2.2.2.1, pZ2.2.2.2.2⟩)
    exact key_on_5_8 aI q ⟨bw2, kC2, kE2, kI2, kR2, kV2, kX2, pZ2, laI⟩
 case key =>
  rintro aI r ⟨bw, kC, kE, kI, kR, kV, kX, pZ, laI⟩
  try dsimp only
  refine rd1_ 9 (fun K hK => ?br5014)
  case br5014 =>
   have kI9 := (((((kI.put 0 (.int .i64 xid) #[.int .i64 xid, .int .i64 0, .int .i64 0, .string ⟨#[]⟩, .slice none 0 0] rfl).put 1 (.int .i64 xkd) #[.int .i64 xid, .int .i64 xkd, .int .i64 0, .string ⟨#[]⟩, .slice none 0 0] rfl).put 2 (.int .i64 xln) #[.int .i64 xid, .int .i64 xkd, .int .i64 xln, .string ⟨#[]⟩, .slice none 0 0] rfl).put 3 (.string xs_) #[.int .i64 xid, .int .i64 xkd, .int .i64 xln, .string xs_, .slice none 0 0] rfl).put 4 (.slice Ax mx cx) #[.int .i64 xid, .int .i64 xkd, .int .i64 xln, .string xs_, .slice Ax mx cx] rfl)
   have kV9 := (((((kV.far (p := ⟨aI, 0, none⟩) (by show w.heap.size ≠ aI; omega) (.int .i64 xid)).far (p := ⟨aI, 1, none⟩) (by show w.heap.size ≠ aI; omega) (.int .i64 xkd)).far (p := ⟨aI, 2, none⟩) (by show w.heap.size ≠ aI; omega) (.int .i64 xln)).far (p := ⟨aI, 3, none⟩) (by show w.heap.size ≠ aI; omega) (.string xs_)).far (p := ⟨aI, 4, none⟩) (by show w.heap.size ≠ aI; omega) (.slice Ax mx cx))
   have kC9 := (((((kC.far (p := ⟨aI, 0, none⟩) (by show w.heap.size + 1 ≠ aI; omega) (.int .i64 xid)).far (p := ⟨aI, 1, none⟩) (by show w.heap.size + 1 ≠ aI; omega) (.int .i64 xkd)).far (p := ⟨aI, 2, none⟩) (by show w.heap.size + 1 ≠ aI; omega) (.int .i64 xln)).far (p := ⟨aI, 3, none⟩) (by show w.heap.size + 1 ≠ aI; omega) (.string xs_)).far (p := ⟨aI, 4, none⟩) (by show w.heap.size + 1 ≠ aI; omega) (.slice Ax mx cx))
   have kE9 := (((((kE.far (p := ⟨aI, 0, none⟩) (by show pe ≠ aI; omega) (.int .i64 xid)).far (p := ⟨aI, 1, none⟩) (by show pe ≠ aI; omega) (.int .i64 xkd)).far (p := ⟨aI, 2, none⟩) (by show pe ≠ aI; omega) (.int .i64 xln)).far (p := ⟨aI, 3, none⟩) (by show pe ≠ aI; omega) (.string xs_)).far (p := ⟨aI, 4, none⟩) (by show pe ≠ aI; omega) (.slice Ax mx cx))
   have kX9 := (((((kX.far (p := ⟨aI, 0, none⟩) (by show w.heap.size + 1 + 1 ≠ aI; omega) (.int .i64 xid)).far (p := ⟨aI, 1, none⟩) (by show w.heap.size + 1 + 1 ≠ aI; omega) (.int .i64 xkd)).far (p := ⟨aI, 2, none⟩) (by show w.heap.size + 1 + 1 ≠ aI; omega) (.int .i64 xln)).far (p := ⟨aI, 3, none⟩) (by show w.heap.size + 1 + 1 ≠ aI; omega) (.string xs_)).far (p := ⟨aI, 4, none⟩) (by show w.heap.size + 1 + 1 ≠ aI; omega) (.slice Ax mx cx))
   have kR9 := (((((kR.far (p := ⟨aI, 0, none⟩) (by show w.heap.size + 1 + 1 + 1 ≠ aI; omega) (.int .i64 xid)).far (p := ⟨aI, 1, none⟩) (by show w.heap.size + 1 + 1 + 1 ≠ aI; omega) (.int .i64 xkd)).far (p := ⟨aI, 2, none⟩) (by show w.heap.size + 1 + 1 + 1 ≠ aI; omega) (.int .i64 xln)).far (p := ⟨aI, 3, none⟩) (by show w.heap.size + 1 + 1 + 1 ≠ aI; omega) (.string xs_)).far (p := ⟨aI, 4, none⟩) (by show w.heap.size + 1 + 1 + 1 ≠ aI; omega) (.slice Ax mx cx))
   have zz0 := (farCL (b := aI) (o := 4) (u := (.slice Ax mx cx)) (by omega) (farCL (b := aI) (o := 3) (u := (.string xs_)) (by omega) (farCL (b := aI) (o := 2) (u := (.int .i64 xln)) (by omega) (farCL (b := aI) (o := 1) (u := (.int .i64 xkd)) (by omega) (farCL (b := aI) (o := 0) (u := (.int .i64 xid)) (by omega) pZ.1)))))
   have zz1 := (farCL (b := aI) (o := 4) (u := (.slice Ax mx cx)) (by omega) (farCL (b := aI) (o := 3) (u := (.string xs_)) (by omega) (farCL (b := aI) (o := 2) (u := (.int .i64 xln)) (by omega) (farCL (b := aI) (o := 1) (u := (.int .i64 xkd)) (by omega) (farCL (b := aI) (o := 0) (u := (.int .i64 xid)) (by omega) pZ.2.1)))))
   have zz2 := (farCL (b := aI) (o := 4) (u := (.slice Ax mx cx)) (by omega) (farCL (b := aI) (o := 3) (u := (.string xs_)) (by omega) (farCL (b := aI) (o := 2) (u := (.int .i64 xln)) (by omega) (farCL (b := aI) (o := 1) (u := (.int .i64 xkd)) (by omega) (farCL (b := aI) (o := 0) (u := (.int .i64 xid)) (by omega) pZ.2.2.1)))))
   have zz3 := (farCL (b := aI) (o := 4) (u := (.slice Ax mx cx)) (by omega) (farCL (b := aI) (o := 3) (u := (.string xs_)) (by omega) (farCL (b := aI) (o := 2) (u := (.int .i64 xln)) (by omega) (farCL (b := aI) (o := 1) (u := (.int .i64 xkd)) (by omega) (farCL (b := aI) (o := 0) (u := (.int .i64 xid)) (by omega) pZ.2.2.2.1)))))
   have zz4 := (farCL (b := aI) (o := 4) (u := (.slice Ax mx cx)) (by omega) (farCL (b := aI) (o := 3) (u := (.string xs_)) (by omega) (farCL (b := aI) (o := 2) (u := (.int .i64 xln)) (by omega) (farCL (b := aI) (o := 1) (u := (.int .i64 xkd)) (by omega) (farCL (b := aI) (o := 0) (u := (.int .i64 xid)) (by omega) pZ.2.2.2.2)))))
   have B9 : Below w.heap.size w _ := (belC (belC (belC (belC (belC (belG B8 bw (by omega)) aI 0 (by omega) (.int .i64 xid)) aI 1 (by omega) (.int .i64 xkd)) aI 2 (by omega) (.int .i64 xln)) aI 3 (by omega) (.string xs_)) aI 4 (by omega) (.slice Ax mx cx))
   obtain ⟨w9, hw9⟩ : ∃ W, (((((r.setCell ⟨aI, 0, none⟩ (.int .i64 xid)).setCell ⟨aI, 1, none⟩ (.int .i64 xkd)).setCell ⟨aI, 2, none⟩ (.int .i64 xln)).setCell ⟨aI, 3, none⟩ (.string xs_)).setCell ⟨aI, 4, none⟩ (.slice Ax mx cx)) = W := ⟨_, rfl⟩
   rw [hw9] at kI9 kV9 kC9 kE9 kX9 kR9 zz0 zz1 zz2 zz3 zz4 B9
   have z9 : aI < w9.heap.size := kI9.lt
   obtain ⟨xf0, xf1, xf2, xf3, xf4⟩ := kI.f5
   obtain ⟨xx0, xx1, xx2, xx3, xx4⟩ := kI.g5
   have xl := kI.lt
   go_simp
   refine hK.out _ _ (by first | exact ⟨kV9.get 0 rfl, kV9.get 1 rfl, kE9.get 3 rfl, zz0, zz1, zz2, zz3, zz4⟩ | (rw [hw9]; exact ⟨kV9.get 0 rfl, kV9.get 1 rfl, kE9.get 3 rfl, zz0, zz1, zz2, zz3, zz4⟩)) (fun _ => ?_)
   clear hK K
   try simp only [Act.put, pT_, pZ_, pS_]
   try rw [hw9]
   clear hw9 xl zz0 zz1 zz2 zz3 zz4 kI kV kC kE kX kR pZ bw xf0 xx0 xf1 xx1 xf2 xx2 xf3 xx3 xf4 xx4
   refine wpAnyH_done (by kernel_rfl) ?_ _
   have Hmxl := Hmx
   have i_1 := kI9.get 1 rfl
   obtain ⟨v_0, v_1⟩ := kV9.g2
   go_wp2_with fail
   refine (Hcp.out w9 (hvv.out.next B9).is).mono ?_
   rintro e w10 ⟨gy, cy, us, rfl, hY, hdis, hb10⟩
   have B10 := belN B9 hb10
   clear i_1 v_0 v_1
   have kV10 := kV9.below hb10 kV9.lt
   have kC10 := kC9.below hb10 kC9.lt
   have kE10 := kE9.below hb10 kE9.lt
   have kX10 := kX9.below hb10 kX9.lt
   have kR10 := kR9.below hb10 kR9.lt
   have kI10 := kI9.below hb10 kI9.lt
   clear kV9 kC9 kE9 kX9 kR9 kI9
   obtain ⟨py, hpy⟩ : ∃ q, w10.heap.size = q := ⟨_, rfl⟩
   obtain ⟨w11, hw11⟩ : ∃ W, w10.alloc (.cells #[.int .i64 nx, .slice (some ⟨gy, 0, none⟩) xs.length cy] 26) = W := ⟨_, rfl⟩
   have kY11 : Blk w11 py 26 #[.int .i64 nx, .slice (some ⟨gy, 0, none⟩) xs.length cy] := by rw [<- hw11, <- hpy]; exact Blk.new' _ _ _ _ (by simp)
   have a11 : Below w10.heap.size w10 w11 := by rw [<- hw11]; exact belA (bel0 _) _
   have Hw11 := Lib.hid hw11
   have Hpy := Lib.hid hpy
   have hgy : gy < py := by have := hY.hi.2; omega
   have hIl := kI10.lt
   have hIy : aI < py := by omega
   clear hw11 hpy hIl
   have B11 := belN B10 a11
   have Y11 := Lib.hid (hY.below a11)
   have Hdis := Lib.hid hdis
   clear hY hdis
   have kV11 := kV10.below a11 kV10.lt
   have kC11 := kC10.below a11 kC10.lt
   have kE11 := kE10.below a11 kE10.lt
   have kX11 := kX10.below a11 kX10.lt
   have kR11 := kR10.below a11 kR10.lt
   have kI11 := kI10.below a11 kI10.lt
   clear a11 kV10 kC10 kE10 kX10 kR10 kI10
   go_upto_region 8 with fail
   try rw [Hpy.out]
   rw [Hw11.out]
   clear Hw11 Hpy
   have c_0 := kC11.get 0 rfl
   obtain rfl : kd = 3 := H3.out
   ·skip
    have i_4 := kI11.get 4 rfl
    by_cases hkd2 : xkd = 2
    ·have t9 : (xkd == 2) = true := by rw [hkd2]; rfl
     clear hkd2
     go_upto_region 12 with fail
     clear c_0 t9 i_4
     obtain ⟨v_0, v_1⟩ := kV11.g2
     obtain ⟨x_0, x_1⟩ := kX11.g2
     obtain ⟨r_0, r_1, r_2, r_3⟩ := kR11.g4
     obtain ⟨xf0, xf1⟩ := kX11.f2
     have xl := kX11.lt
     obtain ⟨rf0, rf1, rf2, rf3⟩ := kR11.f4
     have rl := kR11.lt
     go_wp2
     refine foldBPL ?_
     intro wf hwf
     obtain ⟨hX, hR, hB⟩ : Blk wf (w.heap.size + 1 + 1) 26 #[.int .i64 nx, .slice (some ⟨b, of_, none⟩) xs.length c] /\ Blk wf (w.heap.size + 1 + 1 + 1) 54 #[.int .i64 5, .int .i64 0, .string ⟨#[]⟩, .string ⟨#[]⟩] /\ Below w.heap.size w wf := by
      rw [hwf]
      first
       | exact two_putL _ _ _ _ _ _ kX11 kR11 (by omega) B11 (by omega) (by omega)
       | exact two_putL _ _ _ _ _ _ kX11.drew kR11.drew (by omega) B11.drew (by omega) (by omega)
     clear hwf x_0 x_1 r_0 r_1 r_2 r_3
     obtain ⟨x_0, x_1⟩ := hX.g2
     obtain ⟨r_0, r_1, r_2, r_3⟩ := hR.g4
     refine bodyPost_ret (v := .tuple #[.agg #[.int .i64 nx, .slice (some ⟨b, of_, none⟩) xs.length c], .agg #[.int .i64 5, .int .i64 0, .string ⟨#[]⟩, .string ⟨#[]⟩]]) (by simp [results, Tryz.results169, go_sem, x_0, x_1, r_0, r_1, r_2, r_3]) rfl ⟨⟨_, _, _, _, _, _, rfl, HQ0.out _ (by decide), .inl ⟨rfl, rfl⟩⟩, hB⟩
    ·have t9 : (xkd == 2) = false := by simpa using hkd2
     clear hkd2
     by_cases hm0 : (0 : Int) < (mx : Int)
     ·go_upto_region 16 with fail
      clear c_0 t9 i_4
      obtain ⟨v_0, v_1⟩ := kV11.g2
      obtain ⟨x_0, x_1⟩ := kX11.g2
      obtain ⟨r_0, r_1, r_2, r_3⟩ := kR11.g4
      obtain ⟨xf0, xf1⟩ := kX11.f2
      have xl := kX11.lt
      obtain ⟨rf0, rf1, rf2, rf3⟩ := kR11.f4
      have rl := kR11.lt
      go_wp2
      refine foldBPL ?_
      intro wf hwf
      obtain ⟨hX, hR, hB⟩ : Blk wf (w.heap.size + 1 + 1) 26 #[.int .i64 nx, .slice (some ⟨b, of_, none⟩) xs.length c] /\ Blk wf (w.heap.size + 1 + 1 + 1) 54 #[.int .i64 6, .int .i64 0, .string ⟨#[]⟩, .string ⟨#[]⟩] /\ Below w.heap.size w wf := by
       rw [hwf]
       first
        | exact two_putL _ _ _ _ _ _ kX11 kR11 (by omega) B11 (by omega) (by omega)
        | exact two_putL _ _ _ _ _ _ kX11.drew kR11.drew (by omega) B11.drew (by omega) (by omega)
      clear hwf x_0 x_1 r_0 r_1 r_2 r_3
      obtain ⟨x_0, x_1⟩ := hX.g2
      obtain ⟨r_0, r_1, r_2, r_3⟩ := hR.g4
      refine bodyPost_ret (v := .tuple #[.agg #[.int .i64 nx, .slice (some ⟨b, of_, none⟩) xs.length c], .agg #[.int .i64 6, .int .i64 0, .string ⟨#[]⟩, .string ⟨#[]⟩]]) (by simp [results, Tryz.results169, go_sem, x_0, x_1, r_0, r_1, r_2, r_3]) rfl ⟨⟨_, _, _, _, _, _, rfl, HQ0.out _ (by decide), .inl ⟨rfl, rfl⟩⟩, hB⟩
     ·go_upto_region 17 with fail
      clear c_0 t9 i_4
      have Hxe : Hid (xes = []) := Lib.hid (List.length_eq_zero_iff.1 (by have := Hmx.out; omega))
      have Hen2 := Lib.hid (fun W hW => l6Ents_own w9.heap.size gy cy nx xs us (by omega) a k hk Hp.out W hW)
      simp only [Hm.out] at Hen2
      have HdO := Lib.hid (Hq.out.dir _ (List.getElem_mem hk))
      have hlo11 : w9.heap.size <= w11.heap.size := by have := Y11.out.hi; omega
      obtain ⟨y_0, y_1⟩ := kY11.g2
      have c_1 := kC11.get 1 rfl
      have c_2 := kC11.get 2 rfl
      go_region_held3 (fun w' => w'.cell? ⟨py, 0, none⟩ = some (.int .i64 nx) /\ w'.cell? ⟨py, 1, none⟩ = some (.slice (some ⟨gy, 0, none⟩) xs.length cy) /\ w'.cell? ⟨w.heap.size + 1, 1, none⟩ = some (.int .i64 a) /\ w'.cell? ⟨w.heap.size + 1, 2, none⟩ = some (.string s))
       (first | go_keep | (refine ⟨keep1 hb15 ?_, keep1 hb15 ?_, keep1 hb15 ?_, keep1 hb15 ?_⟩ <;> go_keep) | (refine ⟨keep1 hb16 ?_, keep1 hb16 ?_, keep1 hb16 ?_, keep1 hb16 ?_⟩ <;> go_keep))
       (first
        | (go_at_call 220; refine (Hen2.out _ (Y11.out.below (bel0 w11).drew)).mono ?_; rintro e w15 ⟨vk, _, rfl, hok, hb15⟩)
        | (go_at_call 179; refine (l5Drop_any w9.heap.size m vk _ HdO.out Hnm.out s (by omega) _ (Nat.le_trans hlo11 hb15.size) hok).mono ?_; rintro e w16 ⟨⟨L, b', vL, nL, hP, hnL, rfl, hoL⟩, hb16⟩))
      clear y_0 y_1 c_1 c_2
      subst hnL
      obtain ⟨Ae, ce, rfl, _⟩ := own_vals hoL
      have b16 : Below w11.heap.size w11 w16 := ((bel0 w11).drew.trans hb15).trans (hb16.mono hb15.size)
      have HoL := Lib.hid hoL
      have Y16 := Lib.hid (Y11.out.below b16)
      have BW16 := belN B11 b16
      have kY16 := kY11.below b16 kY11.lt
      have kC16 := kC11.below b16 kC11.lt
      have kI16 := kI11.below b16 kI11.lt
      have kX16 := kX11.below b16 kX11.lt
      have kR16 := kR11.below b16 kR11.lt
      have HP := Lib.hid hP
      have hgD := Y16.out.hi
      have hkX := kX16.lt
      have hkR := kR16.lt
      clear hP hoL hok hb15 hb16 b16 Y11 B11 kY11 kC11 kI11 kX11 kR11 kV11 kE11
      have hkx : j < xs.length := hj
      have hjk : j ≠ k := by rintro rfl; have h1 := Hm.out; rw [HX.out] at h1; simp only [Hxe.out, List.length_nil] at h1; omega
      have hj2 : j < (ptE xs k L).length := by rw [putE_len]; exact hj
      have hxl : (ptE xs k L)[j].ln = xln := by rw [putE_ne hk hjk hj2, HX.out]
      have hp2 : plc (ptE xs k L) xid = (j : Int) := by rw [putE_plc hk, HJ.out.2.1]; exact HJ.out.1
      have hlb : -1000000 <= xln /\ xln <= 1000000 := by have h1 := Hq.out.ln _ (List.getElem_mem hj); rw [HX.out] at h1; simp only at h1; omega
      have Hroot : Hid (∃ x ∈ ptE xs k L, x.id ≠ xid) := Lib.hid (by obtain ⟨y, hy, hy1⟩ := Hq.out.root; have : y.id ∈ (ptE xs k L).map (·.id) := (by rw [putE_ids hk]; exact List.mem_map_of_mem hy); obtain ⟨z, hz, h4⟩ := List.mem_map.1 this; exact ⟨z, hz, by rw [h4, hy1, HJ.out.2.1]; exact fun e => HJ.out.2.2 e.symm⟩)
      obtain ⟨Zl, hZl⟩ : ∃ Zl, lessV (ptE xs k L) j xid (xln - 1) = Zl := ⟨_, rfl⟩
      have HZl := Lib.hid hZl
      have Hxl := Lib.hid hxl
      have Hp2 := Lib.hid hp2
      clear hZl hxl hp2
      go_upto_region 18 with fail
      refine wp_region_held_drew (S := fun w' => w'.cell? ⟨py, 0, none⟩ = some (.int .i64 nx) /\ w'.cell? ⟨py, 1, none⟩ = some (.slice (some ⟨gy, 0, none⟩) xs.length cy) /\ w'.cell? ⟨w.heap.size + 1, 1, none⟩ = some (.int .i64 a) /\ w'.cell? ⟨aI, 0, none⟩ = some (.int .i64 xid)) (by kernel_rfl) (by exact ⟨kY16.get 0 rfl, kY16.get 1 rfl, kC16.get 1 rfl, kI16.get 0 rfl⟩) (fun hHeld => ?_)
      clear hHeld
      refine foldH ?_
      intro r hr0
      have bw : w16.grownBy r (some gy) := by rw [hr0]; exact gb_below (grown_refl _ _) (bel0 w16).drew
      have kY : Blk r py 26 #[.int .i64 nx, .slice (some ⟨gy, 0, none⟩) xs.length cy] := by rw [hr0]; exact kY16.drew
      have kC : Blk r (w.heap.size + 1) 95 #[.int .i64 3, .int .i64 a, .string s, .int .i64 tg, .string nm, .string dt] := by rw [hr0]; exact kC16.drew
      have kI : Blk r aI 36 #[.int .i64 xid, .int .i64 xkd, .int .i64 xln, .string xs_, .slice Ax mx cx] := by rw [hr0]; exact kI16.drew
      have kX : Blk r (w.heap.size + 1 + 1) 26 #[.int .i64 0, .slice none 0 0] := by rw [hr0]; exact kX16.drew
      have kR : Blk r (w.heap.size + 1 + 1 + 1) 54 #[.int .i64 0, .int .i64 0, .string ⟨#[]⟩, .string ⟨#[]⟩] := by rw [hr0]; exact kR16.drew
      have pY : YR r w9.heap.size gy cy xs us := by rw [hr0]; exact (Y16.out.below (bel0 w16).drew)
      have pL : World.ownsRow r w9.heap.size 38 4 (Value.slice Ae L.length ce) L.length (ES L) := by rw [hr0]; exact (own_below HoL.out (bel0 w16).drew (Nat.le_refl _))
      clear hr0
      apply mem4_nnwU (P := fun c2 g2 q => w16.grownBy q (some gy) /\ Blk q (w.heap.size + 1) 95 #[.int .i64 3, .int .i64 a, .string s, .int .i64 tg, .string nm, .string dt] /\ Blk q aI 36 #[.int .i64 xid, .int .i64 xkd, .int .i64 xln, .string xs_, .slice Ax mx cx] /\ Blk q (w.heap.size + 1 + 1 + 1) 54 #[.int .i64 0, .int .i64 0, .string ⟨#[]⟩, .string ⟨#[]⟩] /\ Blk q (w.heap.size + 1 + 1) 26 #[.int .i64 0, .slice none 0 0] /\ Blk q py 26 #[.int .i64 nx, .slice (some ⟨gy, 0, none⟩) xs.length cy] /\ (∃ uz, YR q w9.heap.size g2 c2 Zl uz))
      case use =>
       intro key_ul3_4_7
       apply mem4_w (P := fun  q => w16.grownBy q (some gy) /\ Blk q (w.heap.size + 1) 95 #[.int .i64 3, .int .i64 a, .string s, .int .i64 tg, .string nm, .string dt] /\ Blk q aI 36 #[.int .i64 xid, .int .i64 xkd, .int .i64 xln, .string xs_, .slice Ax mx cx] /\ Blk q (w.heap.size + 1 + 1 + 1) 54 #[.int .i64 0, .int .i64 0, .string ⟨#[]⟩, .string ⟨#[]⟩] /\ Blk q (w.heap.size + 1 + 1) 26 #[.int .i64 0, .slice none 0 0] /\ Blk q py 26 #[.int .i64 nx, .slice (some ⟨gy, 0, none⟩) xs.length cy] /\ YR q w9.heap.size gy cy (ptE xs k L) (us.set k (Value.slice Ae L.length ce)))
       case use =>
        intro key_ul3_4
        refine tkW_ 0 ?_ (hS := by exact ⟨kY.get 0 rfl, kY.get 1 rfl, kC.get 1 rfl, kI.get 0 rfl⟩)
        refine tkW_ 1 ?_ (hS := by exact ⟨kY.get 0 rfl, kY.get 1 rfl, kC.get 1 rfl, kI.get 0 rfl⟩)
        refine tkW_ 2 ?_ (hS := by exact ⟨kY.get 0 rfl, kY.get 1 rfl, kC.get 1 rfl, kI.get 0 rfl⟩)
        refine tkW_ 3 ?_ (hS := by exact ⟨kY.get 0 rfl, kY.get 1 rfl, kC.get 1 rfl, kI.get 0 rfl⟩)
        refine tkW_ 5 ?_ (hS := by exact ⟨kY.get 0 rfl, kY.get 1 rfl, kC.get 1 rfl, kI.get 0 rfl⟩)
        refine tkW_ 6 ?_ (hS := by exact ⟨kY.get 0 rfl, kY.get 1 rfl, kC.get 1 rfl, kI.get 0 rfl⟩)
        refine tkW_ 8 ?_ (hS := by exact ⟨kY.get 0 rfl, kY.get 1 rfl, kC.get 1 rfl, kI.get 0 rfl⟩)
        refine rd1_ 4 (fun K hK => ?br12008)
        case br12008 =>
         go_simp
         go_at_call 221
         refine (l6With_n (n := xs.length) w9.heap.size gy cy nx xs us rfl a k hk (Value.slice Ae L.length ce) L _ pY Hp.out (by omega) pL).mono ?_
         rintro e q ⟨rfl, hZ, hg⟩
         have bw2 := bw.trans hg
         have kY2 := blk_gV kY hg (by omega)
         have kC2 := blk_gV kC hg (by omega)
         have kI2 := blk_gV kI hg (by omega)
         have kX2 := blk_gV kX hg (by omega)
         have kR2 := blk_gV kR hg (by omega)
         have pZ2 := hZ
         refine hK.out _ _ (by exact ⟨kY2.get 0 rfl, kY2.get 1 rfl, kC2.get 1 rfl, kI2.get 0 rfl⟩) (fun _ => ?_)
         clear hK K
         try simp only [Act.put, pT_, pZ_, pS_]
         exact key_ul3_4  q ⟨bw2, kC2, kI2, kR2, kX2, kY2, pZ2⟩
       case key =>
        rintro  r ⟨bw, kC, kI, kR, kX, kY, pZ⟩
        try dsimp only
        refine rd1_ 7 (fun K hK => ?br12009)
        case br12009 =>
         go_simp
         go_at_call 222
         refine (l6Less_n (n := xs.length) w9.heap.size gy cy nx (ptE xs k L) (us.set k (Value.slice Ae L.length ce)) putE_len (by omega) xid j hj2 xln Hxl.out Hp2.out hlb Hroot.out Zl HZl.out _ pZ).mono ?_
         rintro e q ⟨g2, c2, rfl, hz, hg⟩
         have bw2 := bw.trans hg
         have kY2 := blk_gV kY hg (by omega)
         have kC2 := blk_gV kC hg (by omega)
         have kI2 := blk_gV kI hg (by omega)
         have kX2 := blk_gV kX hg (by omega)
         have kR2 := blk_gV kR hg (by omega)
         have pQ2 := hz
         refine hK.out _ _ (by exact ⟨kY2.get 0 rfl, kY2.get 1 rfl, kC2.get 1 rfl, kI2.get 0 rfl⟩) (fun _ => ?_)
         clear hK K
         try simp only [Act.put, pT_, pZ_, pS_]
         exact key_ul3_4_7 c2 g2 q ⟨bw2, kC2, kI2, kR2, kX2, kY2, pQ2⟩
      case key =>
       rintro c2 g2 r ⟨bw, kC, kI, kR, kX, kY, pQ⟩
       try dsimp only
       refine rd1_ 9 (fun K hK => ?br12010)
       case br12010 =>
        obtain ⟨uz, pQ⟩ := pQ
        have kX9 := (kX.put 0 (.int .i64 nx) #[.int .i64 nx, .slice none 0 0] rfl).put 1 (.slice (some ⟨g2, 0, none⟩) Zl.length c2) #[.int .i64 nx, .slice (some ⟨g2, 0, none⟩) Zl.length c2] rfl
        have kY9 := (kY.far (p := ⟨(w.heap.size + 1 + 1), 0, none⟩) (show py ≠ (w.heap.size + 1 + 1) by omega) (.int .i64 nx)).far (p := ⟨(w.heap.size + 1 + 1), 1, none⟩) (show py ≠ (w.heap.size + 1 + 1) by omega) (.slice (some ⟨g2, 0, none⟩) Zl.length c2)
        have kC9 := (kC.far (p := ⟨(w.heap.size + 1 + 1), 0, none⟩) (show (w.heap.size + 1) ≠ (w.heap.size + 1 + 1) by omega) (.int .i64 nx)).far (p := ⟨(w.heap.size + 1 + 1), 1, none⟩) (show (w.heap.size + 1) ≠ (w.heap.size + 1 + 1) by omega) (.slice (some ⟨g2, 0, none⟩) Zl.length c2)
        have kI9 := (kI.far (p := ⟨(w.heap.size + 1 + 1), 0, none⟩) (show aI ≠ (w.heap.size + 1 + 1) by omega) (.int .i64 nx)).far (p := ⟨(w.heap.size + 1 + 1), 1, none⟩) (show aI ≠ (w.heap.size + 1 + 1) by omega) (.slice (some ⟨g2, 0, none⟩) Zl.length c2)
        have kR9 := (kR.far (p := ⟨(w.heap.size + 1 + 1), 0, none⟩) (show (w.heap.size + 1 + 1 + 1) ≠ (w.heap.size + 1 + 1) by omega) (.int .i64 nx)).far (p := ⟨(w.heap.size + 1 + 1), 1, none⟩) (show (w.heap.size + 1 + 1 + 1) ≠ (w.heap.size + 1 + 1) by omega) (.slice (some ⟨g2, 0, none⟩) Zl.length c2)
        have Z9 := (pQ.farV kX 0 (.int .i64 nx)).farV (kX.put 0 (.int .i64 nx) #[.int .i64 nx, .slice none 0 0] rfl) 1 (.slice (some ⟨g2, 0, none⟩) Zl.length c2)
        have B9 : Below w.heap.size w r := belG BW16 bw (by omega)
        have B9' := belC (belC B9 (w.heap.size + 1 + 1) 0 (by omega) (.int .i64 nx)) (w.heap.size + 1 + 1) 1 (by omega) (.slice (some ⟨g2, 0, none⟩) Zl.length c2)
        obtain ⟨w19, hw19⟩ : ∃ W, (r.setCell ⟨(w.heap.size + 1 + 1), 0, none⟩ (.int .i64 nx)).setCell ⟨(w.heap.size + 1 + 1), 1, none⟩ (.slice (some ⟨g2, 0, none⟩) Zl.length c2) = W := ⟨_, rfl⟩
        rw [hw19] at kX9 kY9 kC9 kI9 kR9 Z9 B9'
        obtain ⟨xf0, xf1⟩ := kX.f2
        obtain ⟨xx0, xx1⟩ := kX.g2
        have xl := kX.lt
        go_simp
        refine hK.out _ _ (by first | exact ⟨kY9.get 0 rfl, kY9.get 1 rfl, kC9.get 1 rfl, kI9.get 0 rfl⟩ | (rw [hw19]; exact ⟨kY9.get 0 rfl, kY9.get 1 rfl, kC9.get 1 rfl, kI9.get 0 rfl⟩)) (fun _ => ?_)
        clear hK K
        try simp only [Act.put, pT_, pZ_, pS_]
        try rw [hw19]
        clear hw19 xf0 xf1 xx0 xx1 xl kX kR kY kC kI B9 bw
        refine rd1_ 10 (fun K hK => ?br12011)
        case br12011 =>
         have kR10 := ((((kR9.put 0 (.int .i64 0) #[.int .i64 0, .int .i64 0, .string ⟨#[]⟩, .string ⟨#[]⟩] rfl).put 1 (.int .i64 0) #[.int .i64 0, .int .i64 0, .string ⟨#[]⟩, .string ⟨#[]⟩] rfl).put 2 (.string ⟨#[]⟩) #[.int .i64 0, .int .i64 0, .string ⟨#[]⟩, .string ⟨#[]⟩] rfl).put 3 (.string ⟨#[]⟩) #[.int .i64 0, .int .i64 0, .string ⟨#[]⟩, .string ⟨#[]⟩] rfl)
         have kX10 := ((((kX9.far (p := ⟨(w.heap.size + 1 + 1 + 1), 0, none⟩) (show (w.heap.size + 1 + 1) ≠ (w.heap.size + 1 + 1 + 1) by omega) (.int .i64 0)).far (p := ⟨(w.heap.size + 1 + 1 + 1), 1, none⟩) (show (w.heap.size + 1 + 1) ≠ (w.heap.size + 1 + 1 + 1) by omega) (.int .i64 0)).far (p := ⟨(w.heap.size + 1 + 1 + 1), 2, none⟩) (show (w.heap.size + 1 + 1) ≠ (w.heap.size + 1 + 1 + 1) by omega) (.string ⟨#[]⟩)).far (p := ⟨(w.heap.size + 1 + 1 + 1), 3, none⟩) (show (w.heap.size + 1 + 1) ≠ (w.heap.size + 1 + 1 + 1) by omega) (.string ⟨#[]⟩))
         have kY10 := ((((kY9.far (p := ⟨(w.heap.size + 1 + 1 + 1), 0, none⟩) (show py ≠ (w.heap.size + 1 + 1 + 1) by omega) (.int .i64 0)).far (p := ⟨(w.heap.size + 1 + 1 + 1), 1, none⟩) (show py ≠ (w.heap.size + 1 + 1 + 1) by omega) (.int .i64 0)).far (p := ⟨(w.heap.size + 1 + 1 + 1), 2, none⟩) (show py ≠ (w.heap.size + 1 + 1 + 1) by omega) (.string ⟨#[]⟩)).far (p := ⟨(w.heap.size + 1 + 1 + 1), 3, none⟩) (show py ≠ (w.heap.size + 1 + 1 + 1) by omega) (.string ⟨#[]⟩))
         have kC10 := ((((kC9.far (p := ⟨(w.heap.size + 1 + 1 + 1), 0, none⟩) (show (w.heap.size + 1) ≠ (w.heap.size + 1 + 1 + 1) by omega) (.int .i64 0)).far (p := ⟨(w.heap.size + 1 + 1 + 1), 1, none⟩) (show (w.heap.size + 1) ≠ (w.heap.size + 1 + 1 + 1) by omega) (.int .i64 0)).far (p := ⟨(w.heap.size + 1 + 1 + 1), 2, none⟩) (show (w.heap.size + 1) ≠ (w.heap.size + 1 + 1 + 1) by omega) (.string ⟨#[]⟩)).far (p := ⟨(w.heap.size + 1 + 1 + 1), 3, none⟩) (show (w.heap.size + 1) ≠ (w.heap.size + 1 + 1 + 1) by omega) (.string ⟨#[]⟩))
         have kI10 := ((((kI9.far (p := ⟨(w.heap.size + 1 + 1 + 1), 0, none⟩) (show aI ≠ (w.heap.size + 1 + 1 + 1) by omega) (.int .i64 0)).far (p := ⟨(w.heap.size + 1 + 1 + 1), 1, none⟩) (show aI ≠ (w.heap.size + 1 + 1 + 1) by omega) (.int .i64 0)).far (p := ⟨(w.heap.size + 1 + 1 + 1), 2, none⟩) (show aI ≠ (w.heap.size + 1 + 1 + 1) by omega) (.string ⟨#[]⟩)).far (p := ⟨(w.heap.size + 1 + 1 + 1), 3, none⟩) (show aI ≠ (w.heap.size + 1 + 1 + 1) by omega) (.string ⟨#[]⟩))
         have B10 := (belC (belC (belC (belC B9' (w.heap.size + 1 + 1 + 1) 0 (by omega) (.int .i64 0)) (w.heap.size + 1 + 1 + 1) 1 (by omega) (.int .i64 0)) (w.heap.size + 1 + 1 + 1) 2 (by omega) (.string ⟨#[]⟩)) (w.heap.size + 1 + 1 + 1) 3 (by omega) (.string ⟨#[]⟩))
         have Z10 := Z9.far4 kR9 (.int .i64 0) (.int .i64 0) (.string ⟨#[]⟩) (.string ⟨#[]⟩)
         obtain ⟨w20, hw20⟩ : ∃ W, ((((w19.setCell ⟨(w.heap.size + 1 + 1 + 1), 0, none⟩ (.int .i64 0)).setCell ⟨(w.heap.size + 1 + 1 + 1), 1, none⟩ (.int .i64 0)).setCell ⟨(w.heap.size + 1 + 1 + 1), 2, none⟩ (.string ⟨#[]⟩)).setCell ⟨(w.heap.size + 1 + 1 + 1), 3, none⟩ (.string ⟨#[]⟩)) = W := ⟨_, rfl⟩
         rw [hw20] at kX10 kY10 kC10 kI10 kR10 Z10 B10
         obtain ⟨xf0, xf1, xf2, xf3⟩ := kR9.f4
         obtain ⟨xx0, xx1, xx2, xx3⟩ := kR9.g4
         have xl := kR9.lt
         go_simp
         refine hK.out _ _ (by first | exact ⟨kY10.get 0 rfl, kY10.get 1 rfl, kC10.get 1 rfl, kI10.get 0 rfl⟩ | (rw [hw20]; exact ⟨kY10.get 0 rfl, kY10.get 1 rfl, kC10.get 1 rfl, kI10.get 0 rfl⟩)) (fun _ => ?_)
         clear hK K
         try simp only [Act.put, pT_, pZ_, pS_]
         try rw [hw20]
         clear hw20
         refine wpAnyH_done (by kernel_rfl) ?_ _
         obtain ⟨x_0, x_1⟩ := kX10.g2
         obtain ⟨r_0, r_1, r_2, r_3⟩ := kR10.g4
         go_wp2
         have hun := HQ1.out i hi j hj Hf.out (by show xs[j].id = xs[k].es[i].d; rw [HX.out, HE.out]; exact HJ.out.2.1) (by show xs[j].es = []; rw [HX.out]; exact Hxe.out)
         simp only [HP.out, HX.out] at hun
         rw [HZl.out] at hun
         refine bodyPost_ret (v := .tuple #[.agg #[.int .i64 nx, .slice (some ⟨g2, 0, none⟩) Zl.length c2], .agg #[.int .i64 0, .int .i64 0, .string ⟨#[]⟩, .string ⟨#[]⟩]]) (by simp [results, Tryz.results169, go_sem, x_0, x_1, r_0, r_1, r_2, r_3]) rfl ⟨⟨_, ⟨nx, Zl⟩, _, _, _, _, rfl, hun, .inr ⟨g2, c2, uz, rfl, Z10.more (by omega)⟩⟩, B10⟩

end Go.Proofs.YtjjniapamdleoaaGreatDoor
