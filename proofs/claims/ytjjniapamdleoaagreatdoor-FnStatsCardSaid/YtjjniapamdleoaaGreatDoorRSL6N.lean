/- A call on what is there in a volume that calls have made: l6On. -/
import Derived.Test.YtjjniapamdleoaaGreatDoorRSL6M
import Derived.Test.YtjjniapamdleoaaGreatDoorRSL6R
namespace Go.Proofs.YtjjniapamdleoaaGreatDoor
open Go Go.RowKit
set_option maxHeartbeats 8000000
set_option maxRecDepth 100000

theorem mem4_nnw {G P : (Nat) -> (Nat) -> (World) -> Prop} {R : Prop} (use : (∀ (x0 : Nat) (x1 : Nat) (x2 : World), P x0 x1 x2 -> G x0 x1 x2) -> R) (key : ∀ (x0 : Nat) (x1 : Nat) (x2 : World), P x0 x1 x2 -> G x0 x1 x2) : R := use key
theorem mem4_nw {G P : (Nat) -> (World) -> Prop} {R : Prop} (use : (∀ (x0 : Nat) (x1 : World), P x0 x1 -> G x0 x1) -> R) (key : ∀ (x0 : Nat) (x1 : World), P x0 x1 -> G x0 x1) : R := use key
theorem l6On_all (v : Value) (V : VolD) (K : Int) (hq : QV K V) (a : Int) (s : ByteArray) (tg : Int) (nm dt : ByteArray) (hs : s.size <= 24) (hKl : K <= 1000000) (kd : Int) (h3 : 3 <= kd /\ kd <= 8) (hdt : dt.size <= 20) (h2 : kd = 5 ∨ kd = 6 -> nm.size <= 24 /\ ∃ (k2 : Nat) (hk2 : k2 < V.xs.length), plc V.xs tg = (k2 : Int) /\ V.xs[k2].kd = 2) (k : Nat) (hk : k < V.xs.length) (hp : plc V.xs a = (k : Int)) (w : World) (hC : IsVolC w v V) :
  Calls Tryz.prog 169 #[v, .agg #[.int .i64 kd, .int .i64 a, .string s, .int .i64 tg, .string nm, .string dt]] w fun e w' => CallP w v V (K + 1) e w' /\ Below w.heap.size w w' := by
 have H2 := Lib.hid h2
 have H3 := Lib.hid h3
 clear h2 h3
 have hn := hq.len
 have hnm := hq.names hk
 have Hen := Lib.hid (fun W hW => l6Ents_rd v V (by omega) a k hk hp W hW)
 have Hat := Lib.hid (fun b W hW => l6At_any v V (by omega) b W hW)
 have Hcp := Lib.hid (fun W hW => l6Copy_own v V (by omega) (by omega) (fun x hx => by have := (hq.sm.2 x hx).1; omega) W hW)
 have Hq := Lib.hid hq
 have Hqm := Lib.hid (hq.mono (show K <= K + 1 by omega))
 have Hp := Lib.hid hp
 have hvv := Lib.hid hC
 obtain ⟨A, c, rfl, hva⟩ := hC.is
 obtain ⟨nx, xs⟩ := V
 simp only at Hen Hat Hcp hnm hn hk Hp hva ⊢
 have Hva := Lib.hid hva
 have Hnm := Lib.hid hnm.2
 have hm12 := hnm.1
 clear hC hp hq hnm hva
 obtain ⟨m, hm⟩ : ∃ m, xs[k].es.length = m := ⟨_, rfl⟩
 have Hm := Lib.hid hm
 simp only [hm] at Hen hm12
 clear hm
 obtain ⟨w1, hW1⟩ : ∃ W, ((((w.alloc (.cells #[.int .i64 nx, .slice A xs.length c] 26)).alloc (.cells #[.int .i64 kd, .int .i64 a, .string s, .int .i64 tg, .string nm, .string dt] 95)).alloc (.cells #[.int .i64 0, .slice none 0 0] 26)).alloc (.cells #[.int .i64 0, .int .i64 0, .string ⟨#[]⟩, .string ⟨#[]⟩] 54)) = W := ⟨_, rfl⟩
 have BW1 : Below w.heap.size w w1 := by rw [<- hW1]; exact belA (belA (belA (belA (bel0 w) _) _) _) _
 have kV1 : Blk w1 w.heap.size 26 #[.int .i64 nx, .slice A xs.length c] := by rw [<- hW1]; exact ((((Blk.new' _ _ _ _ (by simp)).alloc _).alloc _).alloc _)
 have kC1 : Blk w1 (w.heap.size + 1) 95 #[.int .i64 kd, .int .i64 a, .string s, .int .i64 tg, .string nm, .string dt] := by rw [<- hW1]; exact (((Blk.new' _ _ _ _ (by simp)).alloc _).alloc _)
 have kX1 : Blk w1 (w.heap.size + 1 + 1) 26 #[.int .i64 0, .slice none 0 0] := by rw [<- hW1]; exact ((Blk.new' _ _ _ _ (by simp)).alloc _)
 have kR1 : Blk w1 (w.heap.size + 1 + 1 + 1) 54 #[.int .i64 0, .int .i64 0, .string ⟨#[]⟩, .string ⟨#[]⟩] := by rw [<- hW1]; exact (Blk.new' _ _ _ _ (by simp))
 have s1 : w1.heap.size = w.heap.size + 4 := by rw [<- hW1]; simp
 have HW1 := Lib.hid hW1
 have S1 := Lib.hid s1
 clear hW1 s1
 obtain ⟨v_0, v_1⟩ := kV1.g2
 obtain ⟨c_0, c_1, c_2, c_3, c_4, c_5⟩ := kC1.g6
 go_enter Tryz.func169, Tryz.ntmps169
 go_wp2_with fail
 rw [HW1.out]
 clear HW1
 go_region_held3 (fun w' => w'.cell? ⟨w.heap.size, 0, none⟩ = some (.int .i64 nx) /\ w'.cell? ⟨w.heap.size, 1, none⟩ = some (.slice A xs.length c) /\ w'.cell? ⟨(w.heap.size + 1), 1, none⟩ = some (.int .i64 a) /\ w'.cell? ⟨(w.heap.size + 1), 2, none⟩ = some (.string s))
  (first | go_keep | (refine ⟨keep1 hb5 ?_, keep1 hb5 ?_, keep1 hb5 ?_, keep1 hb5 ?_⟩ <;> go_keep) | (refine ⟨keep1 hb6 ?_, keep1 hb6 ?_, keep1 hb6 ?_, keep1 hb6 ?_⟩ <;> go_keep))
  (first
   | (go_at_call 220; refine (Hen.out _ (hvv.out.next BW1.drew)).mono ?_; rintro e w5 ⟨A5, c5, rfl, hr5, hb5⟩)
   | (go_at_call 219; refine (l5At_any A5 m c5 _ Hnm.out (by omega) s (by omega) _ ((hr5.below hb5).more hb5.size)).mono ?_; rintro e w6 ⟨r, rfl, hidx, hb6⟩))
 clear v_0 v_1 c_0 c_1 c_2 c_3 c_4 c_5
 have b6 : Below w1.heap.size w1 w6 := (Below.refl w1.heap.size w1).drew.trans (hb5.trans (hb6.mono hb5.size))
 have B6 := belN BW1 b6
 have kV6 := kV1.below b6 kV1.lt
 have kC6 := kC1.below b6 kC1.lt
 have kX6 := kX1.below b6 kX1.lt
 have kR6 := kR1.below b6 kR1.lt
 clear kV1 kC1 kX1 kR1
 have b6s : w.heap.size + 4 <= w6.heap.size := by have := b6.size; have := S1.out; omega
 clear hr5 b6 hb5 hb6 BW1
 have Hq0 := Hq
 rcases hidx with ⟨rfl, hf⟩ | ⟨i, hi, rfl, hf⟩
 ·clear hf
  obtain ⟨v_0, v_1⟩ := kV6.g2
  obtain ⟨x_0, x_1⟩ := kX6.g2
  obtain ⟨r_0, r_1, r_2, r_3⟩ := kR6.g4
  obtain ⟨xf0, xf1⟩ := kX6.f2
  have xl := kX6.lt
  obtain ⟨rf0, rf1, rf2, rf3⟩ := kR6.f4
  have rl := kR6.lt
  go_wp2
  refine foldBPL ?_
  intro wf hwf
  obtain ⟨hX, hR, hB⟩ : Blk wf (w.heap.size + 1 + 1) 26 #[.int .i64 nx, .slice A xs.length c] /\ Blk wf (w.heap.size + 1 + 1 + 1) 54 #[.int .i64 2, .int .i64 0, .string ⟨#[]⟩, .string ⟨#[]⟩] /\ Below w.heap.size w wf := by
   rw [hwf]
   first
    | exact two_putL _ _ _ _ _ _ kX6 kR6 (by omega) B6 (by omega) (by omega)
    | exact two_putL _ _ _ _ _ _ kX6.drew kR6.drew (by omega) B6.drew (by omega) (by omega)
  clear hwf x_0 x_1 r_0 r_1 r_2 r_3
  obtain ⟨x_0, x_1⟩ := hX.g2
  obtain ⟨r_0, r_1, r_2, r_3⟩ := hR.g4
  refine bodyPost_ret (v := .tuple #[.agg #[.int .i64 nx, .slice A xs.length c], .agg #[.int .i64 2, .int .i64 0, .string ⟨#[]⟩, .string ⟨#[]⟩]]) (by simp [results, Tryz.results169, go_sem, x_0, x_1, r_0, r_1, r_2, r_3]) rfl ⟨⟨_, _, _, rfl, ⟨_, _, _, _, rfl⟩, Hqm.out, .inl ⟨rfl, rfl⟩⟩, hB⟩
 have Hf := Lib.hid hf
 have him : i < m := by have := Hm.out; omega
 have q0 : ¬ ((i : Int) < 0) := by omega
 have q1 : (0 : Int) <= (i : Int) := by omega
 have q2 : (i : Int) < (m : Int) := by omega
 clear hf
 obtain ⟨v_0, v_1⟩ := kV6.g2
 obtain ⟨c_0, c_1, c_2, c_3, c_4, c_5⟩ := kC6.g6
 go_wp2_with fail
 refine (Hen.out w6 (hvv.out.next B6)).mono ?_
 rintro e w7 ⟨A7, c7, rfl, hr7, hb7⟩
 clear v_0 v_1 c_0 c_1 c_2 c_3 c_4 c_5
 have B7 := belN B6 hb7
 have b7s := hb7.size
 have kV7 := kV6.below hb7 kV6.lt
 have kC7 := kC6.below hb7 kC6.lt
 have kX7 := kX6.below hb7 kX6.lt
 have kR7 := kR6.below hb7 kR6.lt
 clear kV6 kC6 kX6 kR6
 obtain ⟨_, b4, o4, hA7, _, e0, e1, e2, e3⟩ := reads_ent (hr7.below hb7) him
 subst hA7
 obtain ⟨E, hE⟩ : ∃ E, xs[k].es[i] = E := ⟨_, rfl⟩
 have HE := Lib.hid hE
 rw [hE] at e0 e1 e2 e3
 clear hE hr7
 obtain ⟨j, hj, hpj, hij, hne1⟩ := Hq.out.found (List.getElem_mem hk) (List.getElem_mem hi)
 simp only [HE.out] at hpj hij hne1
 obtain ⟨eh, ei, en, ed⟩ := E
 simp only at e0 e1 e2 e3 hpj hij hne1
 obtain ⟨pe, hpe⟩ : ∃ q, w7.heap.size = q := ⟨_, rfl⟩
 obtain ⟨w8, hw8⟩ : ∃ W, w7.alloc (.cells #[.int .i64 eh, .int .i64 ei, .string en, .int .i64 ed] 38) = W := ⟨_, rfl⟩
 have kE8 : Blk w8 pe 38 #[.int .i64 eh, .int .i64 ei, .string en, .int .i64 ed] := by rw [<- hw8, <- hpe]; exact Blk.new' _ _ _ _ (by simp)
 have a8 : Below w7.heap.size w7 w8 := by rw [<- hw8]; exact belA (bel0 _) _
 have hpe1 : w.heap.size + 4 <= pe := by omega
 have Hw8 := Lib.hid hw8
 have Hpe := Lib.hid hpe
 have B8 := belN B7 a8
 clear hw8 hpe
 have kV8 := kV7.below a8 kV7.lt
 have kC8 := kC7.below a8 kC7.lt
 have kX8 := kX7.below a8 kX7.lt
 have kR8 := kR7.below a8 kR7.lt
 clear kV7 kC7 kX7 kR7
 go_upto_region 5 with fail
 try rw [Hpe.out]
 rw [Hw8.out]
 clear Hw8 Hpe a8 e0 e1 e2 e3
 have HAt2 := Lib.hid (fun W hW => Hat.out ed W hW)
 simp only [hpj] at HAt2
 obtain ⟨_, b, of_, Ax, cx, rfl, hbw, z0, z1, z2, z3, z4, hrx⟩ := (Hva.out.below B8).at_ hj
 obtain ⟨x, hx⟩ : ∃ x, xs[j] = x := ⟨_, rfl⟩
 have HX := Lib.hid hx
 rw [hx] at z0 z1 z2 z3 z4 hrx hij
 clear hx
 obtain ⟨xid, xkd, xln, xs_, xes⟩ := x
 simp only at z0 z1 z2 z3 z4 hrx hij
 obtain ⟨mx, hmx⟩ : ∃ q, xes.length = q := ⟨_, rfl⟩
 have Hmx := Lib.hid hmx
 rw [hmx] at z4 hrx
 clear hmx hrx
 have j0 : (0 : Int) <= (j : Int) := by omega
 have j1 : (j : Int) < ((xs.length : Nat) : Int) := by omega
 have HJ := Lib.hid (And.intro hpj (And.intro hij hne1))
 clear hpj hij hne1
 obtain ⟨g0, hg0⟩ : ∃ g0, g0 = w8.heap.size := ⟨_, rfl⟩
 have hle : w.heap.size + 4 <= w8.heap.size /\ pe < w8.heap.size := ⟨by have := kR8.lt; omega, kE8.lt⟩
 refine wp_region_held_drew (S := fun w' => w'.cell? ⟨w.heap.size, 0, none⟩ = some (.int .i64 nx) /\ w'.cell? ⟨w.heap.size, 1, none⟩ = some (.slice (some ⟨b, of_, none⟩) xs.length c) /\ w'.cell? ⟨pe, 3, none⟩ = some (.int .i64 ed) /\ World.cell? w' ⟨b, of_ + j * 5, none⟩ = some (.int .i64 xid) /\ World.cell? w' ⟨b, of_ + j * 5 + 1, none⟩ = some (.int .i64 xkd) /\ World.cell? w' ⟨b, of_ + j * 5 + 2, none⟩ = some (.int .i64 xln) /\ World.cell? w' ⟨b, of_ + j * 5 + 3, none⟩ = some (.string xs_) /\ World.cell? w' ⟨b, of_ + j * 5 + 4, none⟩ = some (.slice Ax mx cx)) (by kernel_rfl) (by exact ⟨kV8.get 0 rfl, kV8.get 1 rfl, kE8.get 3 rfl, z0, z1, z2, z3, z4⟩) (fun hHeld => ?_)
 clear hHeld
 refine foldH ?_
 intro r hr0
 have bw : w8.grownBy r (some g0) := by rw [hr0]; exact gb_below (grown_refl _ _) (bel0 w8).drew
 have kV : Blk r w.heap.size 26 #[.int .i64 nx, .slice (some ⟨b, of_, none⟩) xs.length c] := by rw [hr0]; exact kV8.drew
 have kC : Blk r (w.heap.size + 1) 95 #[.int .i64 kd, .int .i64 a, .string s, .int .i64 tg, .string nm, .string dt] := by rw [hr0]; exact kC8.drew
 have kE : Blk r pe 38 #[.int .i64 eh, .int .i64 ei, .string en, .int .i64 ed] := by rw [hr0]; exact kE8.drew
 have kX : Blk r (w.heap.size + 1 + 1) 26 #[.int .i64 0, .slice none 0 0] := by rw [hr0]; exact kX8.drew
 have kR : Blk r (w.heap.size + 1 + 1 + 1) 54 #[.int .i64 0, .int .i64 0, .string ⟨#[]⟩, .string ⟨#[]⟩] := by rw [hr0]; exact kR8.drew
 have pZ : (World.cell? r ⟨b, of_ + j * 5, none⟩ = some (.int .i64 xid) /\ World.cell? r ⟨b, of_ + j * 5 + 1, none⟩ = some (.int .i64 xkd) /\ World.cell? r ⟨b, of_ + j * 5 + 2, none⟩ = some (.int .i64 xln) /\ World.cell? r ⟨b, of_ + j * 5 + 3, none⟩ = some (.string xs_) /\ World.cell? r ⟨b, of_ + j * 5 + 4, none⟩ = some (.slice Ax mx cx)) := by rw [hr0]; exact ⟨keep1 (bel0 w8).drew z0, keep1 (bel0 w8).drew z1, keep1 (bel0 w8).drew z2, keep1 (bel0 w8).drew z3, keep1 (bel0 w8).drew z4⟩
 clear hr0
 apply mem4_nw (P := fun aI q => w8.grownBy q (some g0) /\ Blk q (w.heap.size + 1) 95 #[.int .i64 kd, .int .i64 a, .string s, .int .i64 tg, .string nm, .string dt] /\ Blk q pe 38 #[.int .i64 eh, .int .i64 ei, .string en, .int .i64 ed] /\ Blk q aI 36 #[.int .i64 0, .int .i64 0, .int .i64 0, .string ⟨#[]⟩, .slice none 0 0] /\ Blk q (w.heap.size + 1 + 1 + 1) 54 #[.int .i64 0, .int .i64 0, .string ⟨#[]⟩, .string ⟨#[]⟩] /\ Blk q w.heap.size 26 #[.int .i64 nx, .slice (some ⟨b, of_, none⟩) xs.length c] /\ Blk q (w.heap.size + 1 + 1) 26 #[.int .i64 0, .slice none 0 0] /\ (World.cell? q ⟨b, of_ + j * 5, none⟩ = some (.int .i64 xid) /\ World.cell? q ⟨b, of_ + j * 5 + 1, none⟩ = some (.int .i64 xkd) /\ World.cell? q ⟨b, of_ + j * 5 + 2, none⟩ = some (.int .i64 xln) /\ World.cell? q ⟨b, of_ + j * 5 + 3, none⟩ = some (.string xs_) /\ World.cell? q ⟨b, of_ + j * 5 + 4, none⟩ = some (.slice Ax mx cx)) /\ w8.heap.size <= aI)
 case use =>
  intro key_on_5_8
  apply mem4_nw (P := fun aI q => w8.grownBy q (some g0) /\ Blk q (w.heap.size + 1) 95 #[.int .i64 kd, .int .i64 a, .string s, .int .i64 tg, .string nm, .string dt] /\ Blk q pe 38 #[.int .i64 eh, .int .i64 ei, .string en, .int .i64 ed] /\ Blk q aI 36 #[.int .i64 0, .int .i64 0, .int .i64 0, .string ⟨#[]⟩, .slice none 0 0] /\ Blk q (w.heap.size + 1 + 1 + 1) 54 #[.int .i64 0, .int .i64 0, .string ⟨#[]⟩, .string ⟨#[]⟩] /\ Blk q w.heap.size 26 #[.int .i64 nx, .slice (some ⟨b, of_, none⟩) xs.length c] /\ Blk q (w.heap.size + 1 + 1) 26 #[.int .i64 0, .slice none 0 0] /\ (World.cell? q ⟨b, of_ + j * 5, none⟩ = some (.int .i64 xid) /\ World.cell? q ⟨b, of_ + j * 5 + 1, none⟩ = some (.int .i64 xkd) /\ World.cell? q ⟨b, of_ + j * 5 + 2, none⟩ = some (.int .i64 xln) /\ World.cell? q ⟨b, of_ + j * 5 + 3, none⟩ = some (.string xs_) /\ World.cell? q ⟨b, of_ + j * 5 + 4, none⟩ = some (.slice Ax mx cx)) /\ w8.heap.size <= aI)
  case use =>
   intro key_on_8
   apply mem4_w (P := fun  q => w8.grownBy q (some g0) /\ Blk q (w.heap.size + 1) 95 #[.int .i64 kd, .int .i64 a, .string s, .int .i64 tg, .string nm, .string dt] /\ Blk q pe 38 #[.int .i64 eh, .int .i64 ei, .string en, .int .i64 ed] /\ Blk q (w.heap.size + 1 + 1 + 1) 54 #[.int .i64 0, .int .i64 0, .string ⟨#[]⟩, .string ⟨#[]⟩] /\ Blk q w.heap.size 26 #[.int .i64 nx, .slice (some ⟨b, of_, none⟩) xs.length c] /\ Blk q (w.heap.size + 1 + 1) 26 #[.int .i64 0, .slice none 0 0] /\ (World.cell? q ⟨b, of_ + j * 5, none⟩ = some (.int .i64 xid) /\ World.cell? q ⟨b, of_ + j * 5 + 1, none⟩ = some (.int .i64 xkd) /\ World.cell? q ⟨b, of_ + j * 5 + 2, none⟩ = some (.int .i64 xln) /\ World.cell? q ⟨b, of_ + j * 5 + 3, none⟩ = some (.string xs_) /\ World.cell? q ⟨b, of_ + j * 5 + 4, none⟩ = some (.slice Ax mx cx)))
   case use =>
    intro key_on_5
    refine tkW_ 0 ?_ (hS := by exact ⟨kV.get 0 rfl, kV.get 1 rfl, kE.get 3 rfl, pZ.1, pZ.2.1, pZ.2.2.1, pZ.2.2.2.1, pZ.2.2.2.2⟩)
    refine tkW_ 1 ?_ (hS := by exact ⟨kV.get 0 rfl, kV.get 1 rfl, kE.get 3 rfl, pZ.1, pZ.2.1, pZ.2.2.1, pZ.2.2.2.1, pZ.2.2.2.2⟩)
    refine tkW_ 2 ?_ (hS := by exact ⟨kV.get 0 rfl, kV.get 1 rfl, kE.get 3 rfl, pZ.1, pZ.2.1, pZ.2.2.1, pZ.2.2.2.1, pZ.2.2.2.2⟩)
    refine tkW_ 3 ?_ (hS := by exact ⟨kV.get 0 rfl, kV.get 1 rfl, kE.get 3 rfl, pZ.1, pZ.2.1, pZ.2.2.1, pZ.2.2.2.1, pZ.2.2.2.2⟩)
    refine tkW_ 4 ?_ (hS := by exact ⟨kV.get 0 rfl, kV.get 1 rfl, kE.get 3 rfl, pZ.1, pZ.2.1, pZ.2.2.1, pZ.2.2.2.1, pZ.2.2.2.2⟩)
    refine rd2_ 5 8 (fun K hK => ?br5006) (fun K hK => ?br5007)
    case br5006 =>
     go_simp
     go_at_call 54
     refine (HAt2.out _ (hvv.out.next (belG B8 bw (by omega))).is).mono ?_
     rintro e q ⟨rfl, hb⟩
     have bw2 := gb_below bw hb
     have kV2 := kV.below hb kV.lt
     have kC2 := kC.below hb kC.lt
     have kE2 := kE.below hb kE.lt
     have kX2 := kX.below hb kX.lt
     have kR2 := kR.below hb kR.lt
     have pZ2 : (World.cell? q ⟨b, of_ + j * 5, none⟩ = some (.int .i64 xid) /\ World.cell? q ⟨b, of_ + j * 5 + 1, none⟩ = some (.int .i64 xkd) /\ World.cell? q ⟨b, of_ + j * 5 + 2, none⟩ = some (.int .i64 xln) /\ World.cell? q ⟨b, of_ + j * 5 + 3, none⟩ = some (.string xs_) /\ World.cell? q ⟨b, of_ + j * 5 + 4, none⟩ = some (.slice Ax mx cx)) := ⟨keep1 hb pZ.1, keep1 hb pZ.2.1, keep1 hb pZ.2.2.1, keep1 hb pZ.2.2.2.1, keep1 hb pZ.2.2.2.2⟩
     refine hK.out _ _ (by exact ⟨kV2.get 0 rfl, kV2.get 1 rfl, kE2.get 3 rfl, pZ2.1, pZ2.2.1, pZ2.2.2.1, pZ2.2.2.2.1, pZ2.2.2.2.2⟩) (fun _ => ?_)
     clear hK K
     try simp only [Act.put, pT_, pZ_, pS_]
     refine tkW_ 6 ?_ (hS := by exact ⟨kV2.get 0 rfl, kV2.get 1 rfl, kE2.get 3 rfl, pZ2.1, pZ2.2.1, pZ2.2.2.1, pZ2.2.2.2.1, pZ2.2.2.2.2⟩)
     refine tkW_ 7 ?_ (hS := by exact ⟨kV2.get 0 rfl, kV2.get 1 rfl, kE2.get 3 rfl, pZ2.1, pZ2.2.1, pZ2.2.2.1, pZ2.2.2.2.1, pZ2.2.2.2.2⟩)
     exact key_on_5  q ⟨bw2, kC2, kE2, kR2, kV2, kX2, pZ2⟩
    case br5007 =>
     go_simp
     refine hK.out _ _ (by exact ⟨(kV.alloc _).get 0 rfl, (kV.alloc _).get 1 rfl, (kE.alloc _).get 3 rfl, keep1 (belA (bel0 _) _) pZ.1, keep1 (belA (bel0 _) _) pZ.2.1, keep1 (belA (bel0 _) _) pZ.2.2.1, keep1 (belA (bel0 _) _) pZ.2.2.2.1, keep1 (belA (bel0 _) _) pZ.2.2.2.2⟩) (fun _ => ?_)
     clear hK K
     try simp only [Act.put, pT_, pZ_, pS_]
     refine foldH ?_
     intro q hq
     obtain ⟨aI, ha⟩ : ∃ g, r.heap.size = g := ⟨_, rfl⟩
     rw [ha]
     have bw2 : w8.grownBy q (some g0) := by rw [hq]; exact gb_below bw (belA (bel0 r) (.cells #[.int .i64 0, .int .i64 0, .int .i64 0, .string ⟨#[]⟩, .slice none 0 0] 36))
     have kV2 : Blk q _ _ _ := hq ▸ kV.alloc (.cells #[.int .i64 0, .int .i64 0, .int .i64 0, .string ⟨#[]⟩, .slice none 0 0] 36)
     have kC2 : Blk q _ _ _ := hq ▸ kC.alloc (.cells #[.int .i64 0, .int .i64 0, .int .i64 0, .string ⟨#[]⟩, .slice none 0 0] 36)
     have kE2 : Blk q _ _ _ := hq ▸ kE.alloc (.cells #[.int .i64 0, .int .i64 0, .int .i64 0, .string ⟨#[]⟩, .slice none 0 0] 36)
     have kX2 : Blk q _ _ _ := hq ▸ kX.alloc (.cells #[.int .i64 0, .int .i64 0, .int .i64 0, .string ⟨#[]⟩, .slice none 0 0] 36)
     have kR2 : Blk q _ _ _ := hq ▸ kR.alloc (.cells #[.int .i64 0, .int .i64 0, .int .i64 0, .string ⟨#[]⟩, .slice none 0 0] 36)
     have pZ2 : (World.cell? q ⟨b, of_ + j * 5, none⟩ = some (.int .i64 xid) /\ World.cell? q ⟨b, of_ + j * 5 + 1, none⟩ = some (.int .i64 xkd) /\ World.cell? q ⟨b, of_ + j * 5 + 2, none⟩ = some (.int .i64 xln) /\ World.cell? q ⟨b, of_ + j * 5 + 3, none⟩ = some (.string xs_) /\ World.cell? q ⟨b, of_ + j * 5 + 4, none⟩ = some (.slice Ax mx cx)) := by rw [hq]; exact ⟨keep1 (belA (bel0 _) _) pZ.1, keep1 (belA (bel0 _) _) pZ.2.1, keep1 (belA (bel0 _) _) pZ.2.2.1, keep1 (belA (bel0 _) _) pZ.2.2.2.1, keep1 (belA (bel0 _) _) pZ.2.2.2.2⟩
     have kI2 : Blk q aI 36 #[.int .i64 0, .int .i64 0, .int .i64 0, .string ⟨#[]⟩, .slice none 0 0] := by rw [hq, <- ha]; exact Blk.new' _ _ _ _ rfl
     have laI : w8.heap.size <= aI := by rw [<- ha]; exact bw.size
     exact key_on_8 aI q ⟨bw2, kC2, kE2, kI2, kR2, kV2, kX2, pZ2, laI⟩
   case key =>
    rintro  r ⟨bw, kC, kE, kR, kV, kX, pZ⟩
    try dsimp only
    refine rd1_ 8 (fun K hK => ?br5010)
    case br5010 =>
     go_simp
     refine hK.out _ _ (by exact ⟨(kV.alloc _).get 0 rfl, (kV.alloc _).get 1 rfl, (kE.alloc _).get 3 rfl, keep1 (belA (bel0 _) _) pZ.1, keep1 (belA (bel0 _) _) pZ.2.1, keep1 (belA (bel0 _) _) pZ.2.2.1, keep1 (belA (bel0 _) _) pZ.2.2.2.1, keep1 (belA (bel0 _) _) pZ.2.2.2.2⟩) (fun _ => ?_)
     clear hK K
     try simp only [Act.put, pT_, pZ_, pS_]
     refine foldH ?_
     intro q hq
     obtain ⟨aI, ha⟩ : ∃ g, r.heap.size = g := ⟨_, rfl⟩
     rw [ha]
     have bw2 : w8.grownBy q (some g0) := by rw [hq]; exact gb_below bw (belA (bel0 r) (.cells #[.int .i64 0, .int .i64 0, .int .i64 0, .string ⟨#[]⟩, .slice none 0 0] 36))
     have kV2 : Blk q _ _ _ := hq ▸ kV.alloc (.cells #[.int .i64 0, .int .i64 0, .int .i64 0, .string ⟨#[]⟩, .slice none 0 0] 36)
     have kC2 : Blk q _ _ _ := hq ▸ kC.alloc (.cells #[.int .i64 0, .int .i64 0, .int .i64 0, .string ⟨#[]⟩, .slice none 0 0] 36)
     have kE2 : Blk q _ _ _ := hq ▸ kE.alloc (.cells #[.int .i64 0, .int .i64 0, .int .i64 0, .string ⟨#[]⟩, .slice none 0 0] 36)
     have kX2 : Blk q _ _ _ := hq ▸ kX.alloc (.cells #[.int .i64 0, .int .i64 0, .int .i64 0, .string ⟨#[]⟩, .slice none 0 0] 36)
     have kR2 : Blk q _ _ _ := hq ▸ kR.alloc (.cells #[.int .i64 0, .int .i64 0, .int .i64 0, .string ⟨#[]⟩, .slice none 0 0] 36)
     have pZ2 : (World.cell? q ⟨b, of_ + j * 5, none⟩ = some (.int .i64 xid) /\ World.cell? q ⟨b, of_ + j * 5 + 1, none⟩ = some (.int .i64 xkd) /\ World.cell? q ⟨b, of_ + j * 5 + 2, none⟩ = some (.int .i64 xln) /\ World.cell? q ⟨b, of_ + j * 5 + 3, none⟩ = some (.string xs_) /\ World.cell? q ⟨b, of_ + j * 5 + 4, none⟩ = some (.slice Ax mx cx)) := by rw [hq]; exact ⟨keep1 (belA (bel0 _) _) pZ.1, keep1 (belA (bel0 _) _) pZ.2.1, keep1 (belA (bel0 _) _) pZ.2.2.1, keep1 (belA (bel0 _) _) pZ.2.2.2.1, keep1 (belA (bel0 _) _) pZ.2.2.2.2⟩
     have kI2 : Blk q aI 36 #[.int .i64 0, .int .i64 0, .int .i64 0, .string ⟨#[]⟩, .slice none 0 0] := by rw [hq, <- ha]; exact Blk.new' _ _ _ _ rfl
     have laI : w8.heap.size <= aI := by rw [<- ha]; exact bw.size
     exact key_on_5_8 aI q ⟨bw2, kC2, kE2, kI2, kR2, kV2, kX2, pZ2, laI⟩
  case key =>
   rintro aI r ⟨bw, kC, kE, kI, kR, kV, kX, pZ, laI⟩
   try dsimp only
   refine rd1_ 5 (fun K hK => ?br5011)
   case br5011 =>
    go_simp
    go_at_call 54
    refine (HAt2.out _ (hvv.out.next (belG B8 bw (by omega))).is).mono ?_
    rintro e q ⟨rfl, hb⟩
    have bw2 := gb_below bw hb
    have kV2 := kV.below hb kV.lt
    have kC2 := kC.below hb kC.lt
    have kE2 := kE.below hb kE.lt
    have kX2 := kX.below hb kX.lt
    have kR2 := kR.below hb kR.lt
    have kI2 := kI.below hb kI.lt
    have pZ2 : (World.cell? q ⟨b, of_ + j * 5, none⟩ = some (.int .i64 xid) /\ World.cell? q ⟨b, of_ + j * 5 + 1, none⟩ = some (.int .i64 xkd) /\ World.cell? q ⟨b, of_ + j * 5 + 2, none⟩ = some (.int .i64 xln) /\ World.cell? q ⟨b, of_ + j * 5 + 3, none⟩ = some (.string xs_) /\ World.cell? q ⟨b, of_ + j * 5 + 4, none⟩ = some (.slice Ax mx cx)) := ⟨keep1 hb pZ.1, keep1 hb pZ.2.1, keep1 hb pZ.2.2.1, keep1 hb pZ.2.2.2.1, keep1 hb pZ.2.2.2.2⟩
    refine hK.out _ _ (by exact ⟨kV2.get 0 rfl, kV2.get 1 rfl, kE2.get 3 rfl, pZ2.1, pZ2.2.1, pZ2.2.2.1, pZ2.2.2.2.1, pZ2.2.2.2.2⟩) (fun _ => ?_)
    clear hK K
    try simp only [Act.put, pT_, pZ_, pS_]
    refine tkW_ 6 ?_ (hS := by exact ⟨kV2.get 0 rfl, kV2.get 1 rfl, kE2.get 3 rfl, pZ2.1, pZ2.2.1, pZ2.2.2.1, pZ2.2.2.2.1, pZ2.2.2.2.2⟩)
    refine tkW_ 7 ?_ (hS := by exact ⟨kV2.get 0 rfl, kV2.get 1 rfl, kE2.get 3 rfl, pZ2.1, pZ2.2.1, pZ2.2.2.1, pZ2.2.2.2.1, pZ2.2.2.2.2⟩)
    exact key_on_5_8 aI q ⟨bw2, kC2, kE2, kI2, kR2, kV2, kX2, pZ2, laI⟩
 case key =>
  rintro aI r ⟨bw, kC, kE, kI, kR, kV, kX, pZ, laI⟩
  try dsimp only
  refine rd1_ 9 (fun K hK => ?br5014)
  case br5014 =>
   have kI9 := (((((kI.put 0 (.int .i64 xid) #[.int .i64 xid, .int .i64 0, .int .i64 0, .string ⟨#[]⟩, .slice none 0 0] rfl).put 1 (.int .i64 xkd) #[.int .i64 xid, .int .i64 xkd, .int .i64 0, .string ⟨#[]⟩, .slice none 0 0] rfl).put 2 (.int .i64 xln) #[.int .i64 xid, .int .i64 xkd, .int .i64 xln, .string ⟨#[]⟩, .slice none 0 0] rfl).put 3 (.string xs_) #[.int .i64 xid, .int .i64 xkd, .int .i64 xln, .string xs_, .slice none 0 0] rfl).put 4 (.slice Ax mx cx) #[.int .i64 xid, .int .i64 xkd, .int .i64 xln, .string xs_, .slice Ax mx cx] rfl)
   have kV9 := (((((kV.far (p := ⟨aI, 0, none⟩) (by show w.heap.size ≠ aI; omega) (.int .i64 xid)).far (p := ⟨aI, 1, none⟩) (by show w.heap.size ≠ aI; omega) (.int .i64 xkd)).far (p := ⟨aI, 2, none⟩) (by show w.heap.size ≠ aI; omega) (.int .i64 xln)).far (p := ⟨aI, 3, none⟩) (by show w.heap.size ≠ aI; omega) (.string xs_)).far (p := ⟨aI, 4, none⟩) (by show w.heap.size ≠ aI; omega) (.slice Ax mx cx))
   have kC9 := (((((kC.far (p := ⟨aI, 0, none⟩) (by show w.heap.size + 1 ≠ aI; omega) (.int .i64 xid)).far (p := ⟨aI, 1, none⟩) (by show w.heap.size + 1 ≠ aI; omega) (.int .i64 xkd)).far (p := ⟨aI, 2, none⟩) (by show w.heap.size + 1 ≠ aI; omega) (.int .i64 xln)).far (p := ⟨aI, 3, none⟩) (by show w.heap.size + 1 ≠ aI; omega) (.string xs_)).far (p := ⟨aI, 4, none⟩) (by show w.heap.size + 1 ≠ aI; omega) (.slice Ax mx cx))
   have kE9 := (((((kE.far (p := ⟨aI, 0, none⟩) (by show pe ≠ aI; omega) (.int .i64 xid)).far (p := ⟨aI, 1, none⟩) (by show pe ≠ aI; omega) (.int .i64 xkd)).far (p := ⟨aI, 2, none⟩) (by show pe ≠ aI; omega) (.int .i64 xln)).far (p := ⟨aI, 3, none⟩) (by show pe ≠ aI; omega) (.string xs_)).far (p := ⟨aI, 4, none⟩) (by show pe ≠ aI; omega) (.slice Ax mx cx))
   have kX9 := (((((kX.far (p := ⟨aI, 0, none⟩) (by show w.heap.size + 1 + 1 ≠ aI; omega) (.int .i64 xid)).far (p := ⟨aI, 1, none⟩) (by show w.heap.size + 1 + 1 ≠ aI; omega) (.int .i64 xkd)).far (p := ⟨aI, 2, none⟩) (by show w.heap.size + 1 + 1 ≠ aI; omega) (.int .i64 xln)).far (p := ⟨aI, 3, none⟩) (by show w.heap.size + 1 + 1 ≠ aI; omega) (.string xs_)).far (p := ⟨aI, 4, none⟩) (by show w.heap.size + 1 + 1 ≠ aI; omega) (.slice Ax mx cx))
   have kR9 := (((((kR.far (p := ⟨aI, 0, none⟩) (by show w.heap.size + 1 + 1 + 1 ≠ aI; omega) (.int .i64 xid)).far (p := ⟨aI, 1, none⟩) (by show w.heap.size + 1 + 1 + 1 ≠ aI; omega) (.int .i64 xkd)).far (p := ⟨aI, 2, none⟩) (by show w.heap.size + 1 + 1 + 1 ≠ aI; omega) (.int .i64 xln)).far (p := ⟨aI, 3, none⟩) (by show w.heap.size + 1 + 1 + 1 ≠ aI; omega) (.string xs_)).far (p := ⟨aI, 4, none⟩) (by show w.heap.size + 1 + 1 + 1 ≠ aI; omega) (.slice Ax mx cx))
   have zz0 := (farCL (b := aI) (o := 4) (u := (.slice Ax mx cx)) (by omega) (farCL (b := aI) (o := 3) (u := (.string xs_)) (by omega) (farCL (b := aI) (o := 2) (u := (.int .i64 xln)) (by omega) (farCL (b := aI) (o := 1) (u := (.int .i64 xkd)) (by omega) (farCL (b := aI) (o := 0) (u := (.int .i64 xid)) (by omega) pZ.1)))))
   have zz1 := (farCL (b := aI) (o := 4) (u := (.slice Ax mx cx)) (by omega) (farCL (b := aI) (o := 3) (u := (.string xs_)) (by omega) (farCL (b := aI) (o := 2) (u := (.int .i64 xln)) (by omega) (farCL (b := aI) (o := 1) (u := (.int .i64 xkd)) (by omega) (farCL (b := aI) (o := 0) (u := (.int .i64 xid)) (by omega) pZ.2.1)))))
   have zz2 := (farCL (b := aI) (o := 4) (u := (.slice Ax mx cx)) (by omega) (farCL (b := aI) (o := 3) (u := (.string xs_)) (by omega) (farCL (b := aI) (o := 2) (u := (.int .i64 xln)) (by omega) (farCL (b := aI) (o := 1) (u := (.int .i64 xkd)) (by omega) (farCL (b := aI) (o := 0) (u := (.int .i64 xid)) (by omega) pZ.2.2.1)))))
   have zz3 := (farCL (b := aI) (o := 4) (u := (.slice Ax mx cx)) (by omega) (farCL (b := aI) (o := 3) (u := (.string xs_)) (by omega) (farCL (b := aI) (o := 2) (u := (.int .i64 xln)) (by omega) (farCL (b := aI) (o := 1) (u := (.int .i64 xkd)) (by omega) (farCL (b := aI) (o := 0) (u := (.int .i64 xid)) (by omega) pZ.2.2.2.1)))))
   have zz4 := (farCL (b := aI) (o := 4) (u := (.slice Ax mx cx)) (by omega) (farCL (b := aI) (o := 3) (u := (.string xs_)) (by omega) (farCL (b := aI) (o := 2) (u := (.int .i64 xln)) (by omega) (farCL (b := aI) (o := 1) (u := (.int .i64 xkd)) (by omega) (farCL (b := aI) (o := 0) (u := (.int .i64 xid)) (by omega) pZ.2.2.2.2)))))
   have B9 : Below w.heap.size w _ := (belC (belC (belC (belC (belC (belG B8 bw (by omega)) aI 0 (by omega) (.int .i64 xid)) aI 1 (by omega) (.int .i64 xkd)) aI 2 (by omega) (.int .i64 xln)) aI 3 (by omega) (.string xs_)) aI 4 (by omega) (.slice Ax mx cx))
   obtain ⟨w9, hw9⟩ : ∃ W, (((((r.setCell ⟨aI, 0, none⟩ (.int .i64 xid)).setCell ⟨aI, 1, none⟩ (.int .i64 xkd)).setCell ⟨aI, 2, none⟩ (.int .i64 xln)).setCell ⟨aI, 3, none⟩ (.string xs_)).setCell ⟨aI, 4, none⟩ (.slice Ax mx cx)) = W := ⟨_, rfl⟩
   rw [hw9] at kI9 kV9 kC9 kE9 kX9 kR9 zz0 zz1 zz2 zz3 zz4 B9
   have z9 : aI < w9.heap.size := kI9.lt
   obtain ⟨xf0, xf1, xf2, xf3, xf4⟩ := kI.f5
   obtain ⟨xx0, xx1, xx2, xx3, xx4⟩ := kI.g5
   have xl := kI.lt
   go_simp
   refine hK.out _ _ (by first | exact ⟨kV9.get 0 rfl, kV9.get 1 rfl, kE9.get 3 rfl, zz0, zz1, zz2, zz3, zz4⟩ | (rw [hw9]; exact ⟨kV9.get 0 rfl, kV9.get 1 rfl, kE9.get 3 rfl, zz0, zz1, zz2, zz3, zz4⟩)) (fun _ => ?_)
   clear hK K
   try simp only [Act.put, pT_, pZ_, pS_]
   try rw [hw9]
   clear hw9 xl zz0 zz1 zz2 zz3 zz4 kI kV kC kE kX kR pZ bw xf0 xx0 xf1 xx1 xf2 xx2 xf3 xx3 xf4 xx4
   refine wpAnyH_done (by kernel_rfl) ?_ _
   have Hmxl := Hmx
   have i_1 := kI9.get 1 rfl
   obtain ⟨v_0, v_1⟩ := kV9.g2
   go_wp2_with fail
   refine (Hcp.out w9 (hvv.out.next B9).is).mono ?_
   rintro e w10 ⟨gy, cy, us, rfl, hY, hdis, hb10⟩
   have B10 := belN B9 hb10
   clear i_1 v_0 v_1
   have kV10 := kV9.below hb10 kV9.lt
   have kC10 := kC9.below hb10 kC9.lt
   have kE10 := kE9.below hb10 kE9.lt
   have kX10 := kX9.below hb10 kX9.lt
   have kR10 := kR9.below hb10 kR9.lt
   have kI10 := kI9.below hb10 kI9.lt
   clear kV9 kC9 kE9 kX9 kR9 kI9
   obtain ⟨py, hpy⟩ : ∃ q, w10.heap.size = q := ⟨_, rfl⟩
   obtain ⟨w11, hw11⟩ : ∃ W, w10.alloc (.cells #[.int .i64 nx, .slice (some ⟨gy, 0, none⟩) xs.length cy] 26) = W := ⟨_, rfl⟩
   have kY11 : Blk w11 py 26 #[.int .i64 nx, .slice (some ⟨gy, 0, none⟩) xs.length cy] := by rw [<- hw11, <- hpy]; exact Blk.new' _ _ _ _ (by simp)
   have a11 : Below w10.heap.size w10 w11 := by rw [<- hw11]; exact belA (bel0 _) _
   have Hw11 := Lib.hid hw11
   have Hpy := Lib.hid hpy
   have hgy : gy < py := by have := hY.hi.2; omega
   have hIl := kI10.lt
   have hIy : aI < py := by omega
   clear hw11 hpy hIl
   have B11 := belN B10 a11
   have Y11 := Lib.hid (hY.below a11)
   have Hdis := Lib.hid hdis
   clear hY hdis
   have kV11 := kV10.below a11 kV10.lt
   have kC11 := kC10.below a11 kC10.lt
   have kE11 := kE10.below a11 kE10.lt
   have kX11 := kX10.below a11 kX10.lt
   have kR11 := kR10.below a11 kR10.lt
   have kI11 := kI10.below a11 kI10.lt
   clear a11 kV10 kC10 kE10 kX10 kR10 kI10
   go_upto_region 8 with fail
   try rw [Hpy.out]
   rw [Hw11.out]
   clear Hw11 Hpy
   have c_0 := kC11.get 0 rfl
   rcases (show kd = 3 ∨ kd = 4 ∨ kd = 5 ∨ kd = 6 ∨ kd = 7 ∨ kd = 8 by have := H3.out; omega) with rfl | rfl | rfl | rfl | rfl | rfl
   ·skip
    have i_4 := kI11.get 4 rfl
    by_cases hkd2 : xkd = 2
    ·have t9 : (xkd == 2) = true := by rw [hkd2]; rfl
     clear hkd2
     go_upto_region 12 with fail
     clear c_0 t9 i_4
     obtain ⟨v_0, v_1⟩ := kV11.g2
     obtain ⟨x_0, x_1⟩ := kX11.g2
     obtain ⟨r_0, r_1, r_2, r_3⟩ := kR11.g4
     obtain ⟨xf0, xf1⟩ := kX11.f2
     have xl := kX11.lt
     obtain ⟨rf0, rf1, rf2, rf3⟩ := kR11.f4
     have rl := kR11.lt
     go_wp2
     refine foldBPL ?_
     intro wf hwf
     obtain ⟨hX, hR, hB⟩ : Blk wf (w.heap.size + 1 + 1) 26 #[.int .i64 nx, .slice (some ⟨b, of_, none⟩) xs.length c] /\ Blk wf (w.heap.size + 1 + 1 + 1) 54 #[.int .i64 5, .int .i64 0, .string ⟨#[]⟩, .string ⟨#[]⟩] /\ Below w.heap.size w wf := by
      rw [hwf]
      first
       | exact two_putL _ _ _ _ _ _ kX11 kR11 (by omega) B11 (by omega) (by omega)
       | exact two_putL _ _ _ _ _ _ kX11.drew kR11.drew (by omega) B11.drew (by omega) (by omega)
     clear hwf x_0 x_1 r_0 r_1 r_2 r_3
     obtain ⟨x_0, x_1⟩ := hX.g2
     obtain ⟨r_0, r_1, r_2, r_3⟩ := hR.g4
     refine bodyPost_ret (v := .tuple #[.agg #[.int .i64 nx, .slice (some ⟨b, of_, none⟩) xs.length c], .agg #[.int .i64 5, .int .i64 0, .string ⟨#[]⟩, .string ⟨#[]⟩]]) (by simp [results, Tryz.results169, go_sem, x_0, x_1, r_0, r_1, r_2, r_3]) rfl ⟨⟨_, _, _, rfl, ⟨_, _, _, _, rfl⟩, Hqm.out, .inl ⟨rfl, rfl⟩⟩, hB⟩
    ·have t9 : (xkd == 2) = false := by simpa using hkd2
     clear hkd2
     by_cases hm0 : (0 : Int) < (mx : Int)
     ·go_upto_region 16 with fail
      clear c_0 t9 i_4
      obtain ⟨v_0, v_1⟩ := kV11.g2
      obtain ⟨x_0, x_1⟩ := kX11.g2
      obtain ⟨r_0, r_1, r_2, r_3⟩ := kR11.g4
      obtain ⟨xf0, xf1⟩ := kX11.f2
      have xl := kX11.lt
      obtain ⟨rf0, rf1, rf2, rf3⟩ := kR11.f4
      have rl := kR11.lt
      go_wp2
      refine foldBPL ?_
      intro wf hwf
      obtain ⟨hX, hR, hB⟩ : Blk wf (w.heap.size + 1 + 1) 26 #[.int .i64 nx, .slice (some ⟨b, of_, none⟩) xs.length c] /\ Blk wf (w.heap.size + 1 + 1 + 1) 54 #[.int .i64 6, .int .i64 0, .string ⟨#[]⟩, .string ⟨#[]⟩] /\ Below w.heap.size w wf := by
       rw [hwf]
       first
        | exact two_putL _ _ _ _ _ _ kX11 kR11 (by omega) B11 (by omega) (by omega)
        | exact two_putL _ _ _ _ _ _ kX11.drew kR11.drew (by omega) B11.drew (by omega) (by omega)
      clear hwf x_0 x_1 r_0 r_1 r_2 r_3
      obtain ⟨x_0, x_1⟩ := hX.g2
      obtain ⟨r_0, r_1, r_2, r_3⟩ := hR.g4
      refine bodyPost_ret (v := .tuple #[.agg #[.int .i64 nx, .slice (some ⟨b, of_, none⟩) xs.length c], .agg #[.int .i64 6, .int .i64 0, .string ⟨#[]⟩, .string ⟨#[]⟩]]) (by simp [results, Tryz.results169, go_sem, x_0, x_1, r_0, r_1, r_2, r_3]) rfl ⟨⟨_, _, _, rfl, ⟨_, _, _, _, rfl⟩, Hqm.out, .inl ⟨rfl, rfl⟩⟩, hB⟩
     ·go_upto_region 17 with fail
      clear c_0 t9 i_4
      have Hxe : Hid (xes = []) := Lib.hid (List.length_eq_zero_iff.1 (by have := Hmx.out; omega))
      have Hen2 := Lib.hid (fun W hW => l6Ents_own w9.heap.size gy cy nx xs us (by omega) a k hk Hp.out W hW)
      simp only [Hm.out] at Hen2
      have HdO := Lib.hid (Hq.out.dir _ (List.getElem_mem hk))
      have hlo11 : w9.heap.size <= w11.heap.size := by have := Y11.out.hi; omega
      obtain ⟨y_0, y_1⟩ := kY11.g2
      have c_1 := kC11.get 1 rfl
      have c_2 := kC11.get 2 rfl
      go_region_held3 (fun w' => w'.cell? ⟨py, 0, none⟩ = some (.int .i64 nx) /\ w'.cell? ⟨py, 1, none⟩ = some (.slice (some ⟨gy, 0, none⟩) xs.length cy) /\ w'.cell? ⟨w.heap.size + 1, 1, none⟩ = some (.int .i64 a) /\ w'.cell? ⟨w.heap.size + 1, 2, none⟩ = some (.string s))
       (first | go_keep | (refine ⟨keep1 hb15 ?_, keep1 hb15 ?_, keep1 hb15 ?_, keep1 hb15 ?_⟩ <;> go_keep) | (refine ⟨keep1 hb16 ?_, keep1 hb16 ?_, keep1 hb16 ?_, keep1 hb16 ?_⟩ <;> go_keep))
       (first
        | (go_at_call 220; refine (Hen2.out _ (Y11.out.below (bel0 w11).drew)).mono ?_; rintro e w15 ⟨vk, _, rfl, hok, hb15⟩)
        | (go_at_call 179; refine (l5Drop_any w9.heap.size m vk _ HdO.out Hnm.out s (by omega) _ (Nat.le_trans hlo11 hb15.size) hok).mono ?_; rintro e w16 ⟨⟨L, b', vL, nL, hP, hnL, rfl, hoL⟩, hb16⟩))
      clear y_0 y_1 c_1 c_2
      subst hnL
      obtain ⟨Ae, ce, rfl, _⟩ := own_vals hoL
      have b16 : Below w11.heap.size w11 w16 := ((bel0 w11).drew.trans hb15).trans (hb16.mono hb15.size)
      have HoL := Lib.hid hoL
      have Y16 := Lib.hid (Y11.out.below b16)
      have BW16 := belN B11 b16
      have kY16 := kY11.below b16 kY11.lt
      have kC16 := kC11.below b16 kC11.lt
      have kI16 := kI11.below b16 kI11.lt
      have kX16 := kX11.below b16 kX11.lt
      have kR16 := kR11.below b16 kR11.lt
      have HP := Lib.hid hP
      have hgD := Y16.out.hi
      have hkX := kX16.lt
      have hkR := kR16.lt
      clear hP hoL hok hb15 hb16 b16 Y11 B11 kY11 kC11 kI11 kX11 kR11 kV11 kE11
      have hkx : j < xs.length := hj
      have hjk : j ≠ k := by rintro rfl; have h1 := Hm.out; rw [HX.out] at h1; simp only [Hxe.out, List.length_nil] at h1; omega
      have hj2 : j < (ptE xs k L).length := by rw [putE_len]; exact hj
      have hxl : (ptE xs k L)[j].ln = xln := by rw [putE_ne hk hjk hj2, HX.out]
      have hp2 : plc (ptE xs k L) xid = (j : Int) := by rw [putE_plc hk, HJ.out.2.1]; exact HJ.out.1
      have hlb : -1000000 <= xln /\ xln <= 1000000 := by have h1 := Hq.out.ln _ (List.getElem_mem hj); rw [HX.out] at h1; simp only at h1; omega
      have Hroot : Hid (∃ x ∈ ptE xs k L, x.id ≠ xid) := Lib.hid (by obtain ⟨y, hy, hy1⟩ := Hq.out.root; have : y.id ∈ (ptE xs k L).map (·.id) := (by rw [putE_ids hk]; exact List.mem_map_of_mem hy); obtain ⟨z, hz, h4⟩ := List.mem_map.1 this; exact ⟨z, hz, by rw [h4, hy1, HJ.out.2.1]; exact fun e => HJ.out.2.2 e.symm⟩)
      obtain ⟨Zl, hZl⟩ : ∃ Zl, lessV (ptE xs k L) j xid (xln - 1) = Zl := ⟨_, rfl⟩
      have HZl := Lib.hid hZl
      have Hxl := Lib.hid hxl
      have Hp2 := Lib.hid hp2
      clear hZl hxl hp2
      go_upto_region 18 with fail
      refine wp_region_held_drew (S := fun w' => w'.cell? ⟨py, 0, none⟩ = some (.int .i64 nx) /\ w'.cell? ⟨py, 1, none⟩ = some (.slice (some ⟨gy, 0, none⟩) xs.length cy) /\ w'.cell? ⟨w.heap.size + 1, 1, none⟩ = some (.int .i64 a) /\ w'.cell? ⟨aI, 0, none⟩ = some (.int .i64 xid)) (by kernel_rfl) (by exact ⟨kY16.get 0 rfl, kY16.get 1 rfl, kC16.get 1 rfl, kI16.get 0 rfl⟩) (fun hHeld => ?_)
      clear hHeld
      refine foldH ?_
      intro r hr0
      have bw : w16.grownBy r (some gy) := by rw [hr0]; exact gb_below (grown_refl _ _) (bel0 w16).drew
      have kY : Blk r py 26 #[.int .i64 nx, .slice (some ⟨gy, 0, none⟩) xs.length cy] := by rw [hr0]; exact kY16.drew
      have kC : Blk r (w.heap.size + 1) 95 #[.int .i64 3, .int .i64 a, .string s, .int .i64 tg, .string nm, .string dt] := by rw [hr0]; exact kC16.drew
      have kI : Blk r aI 36 #[.int .i64 xid, .int .i64 xkd, .int .i64 xln, .string xs_, .slice Ax mx cx] := by rw [hr0]; exact kI16.drew
      have kX : Blk r (w.heap.size + 1 + 1) 26 #[.int .i64 0, .slice none 0 0] := by rw [hr0]; exact kX16.drew
      have kR : Blk r (w.heap.size + 1 + 1 + 1) 54 #[.int .i64 0, .int .i64 0, .string ⟨#[]⟩, .string ⟨#[]⟩] := by rw [hr0]; exact kR16.drew
      have pY : YR r w9.heap.size gy cy xs us := by rw [hr0]; exact (Y16.out.below (bel0 w16).drew)
      have pL : World.ownsRow r w9.heap.size 38 4 (Value.slice Ae L.length ce) L.length (ES L) := by rw [hr0]; exact (own_below HoL.out (bel0 w16).drew (Nat.le_refl _))
      clear hr0
      apply mem4_nnw (P := fun c2 g2 q => w16.grownBy q (some gy) /\ Blk q (w.heap.size + 1) 95 #[.int .i64 3, .int .i64 a, .string s, .int .i64 tg, .string nm, .string dt] /\ Blk q aI 36 #[.int .i64 xid, .int .i64 xkd, .int .i64 xln, .string xs_, .slice Ax mx cx] /\ Blk q (w.heap.size + 1 + 1 + 1) 54 #[.int .i64 0, .int .i64 0, .string ⟨#[]⟩, .string ⟨#[]⟩] /\ Blk q (w.heap.size + 1 + 1) 26 #[.int .i64 0, .slice none 0 0] /\ Blk q py 26 #[.int .i64 nx, .slice (some ⟨gy, 0, none⟩) xs.length cy] /\ (∃ uz, YR q w9.heap.size g2 c2 Zl uz))
      case use =>
       intro key_ul3_4_7
       apply mem4_w (P := fun  q => w16.grownBy q (some gy) /\ Blk q (w.heap.size + 1) 95 #[.int .i64 3, .int .i64 a, .string s, .int .i64 tg, .string nm, .string dt] /\ Blk q aI 36 #[.int .i64 xid, .int .i64 xkd, .int .i64 xln, .string xs_, .slice Ax mx cx] /\ Blk q (w.heap.size + 1 + 1 + 1) 54 #[.int .i64 0, .int .i64 0, .string ⟨#[]⟩, .string ⟨#[]⟩] /\ Blk q (w.heap.size + 1 + 1) 26 #[.int .i64 0, .slice none 0 0] /\ Blk q py 26 #[.int .i64 nx, .slice (some ⟨gy, 0, none⟩) xs.length cy] /\ YR q w9.heap.size gy cy (ptE xs k L) (us.set k (Value.slice Ae L.length ce)))
       case use =>
        intro key_ul3_4
        refine tkW_ 0 ?_ (hS := by exact ⟨kY.get 0 rfl, kY.get 1 rfl, kC.get 1 rfl, kI.get 0 rfl⟩)
        refine tkW_ 1 ?_ (hS := by exact ⟨kY.get 0 rfl, kY.get 1 rfl, kC.get 1 rfl, kI.get 0 rfl⟩)
        refine tkW_ 2 ?_ (hS := by exact ⟨kY.get 0 rfl, kY.get 1 rfl, kC.get 1 rfl, kI.get 0 rfl⟩)
        refine tkW_ 3 ?_ (hS := by exact ⟨kY.get 0 rfl, kY.get 1 rfl, kC.get 1 rfl, kI.get 0 rfl⟩)
        refine tkW_ 5 ?_ (hS := by exact ⟨kY.get 0 rfl, kY.get 1 rfl, kC.get 1 rfl, kI.get 0 rfl⟩)
        refine tkW_ 6 ?_ (hS := by exact ⟨kY.get 0 rfl, kY.get 1 rfl, kC.get 1 rfl, kI.get 0 rfl⟩)
        refine tkW_ 8 ?_ (hS := by exact ⟨kY.get 0 rfl, kY.get 1 rfl, kC.get 1 rfl, kI.get 0 rfl⟩)
        refine rd1_ 4 (fun K hK => ?br12008)
        case br12008 =>
         go_simp
         go_at_call 221
         refine (l6With_n (n := xs.length) w9.heap.size gy cy nx xs us rfl a k hk (Value.slice Ae L.length ce) L _ pY Hp.out (by omega) pL).mono ?_
         rintro e q ⟨rfl, hZ, hg⟩
         have bw2 := bw.trans hg
         have kY2 := blk_gV kY hg (by omega)
         have kC2 := blk_gV kC hg (by omega)
         have kI2 := blk_gV kI hg (by omega)
         have kX2 := blk_gV kX hg (by omega)
         have kR2 := blk_gV kR hg (by omega)
         have pZ2 := hZ
         refine hK.out _ _ (by exact ⟨kY2.get 0 rfl, kY2.get 1 rfl, kC2.get 1 rfl, kI2.get 0 rfl⟩) (fun _ => ?_)
         clear hK K
         try simp only [Act.put, pT_, pZ_, pS_]
         exact key_ul3_4  q ⟨bw2, kC2, kI2, kR2, kX2, kY2, pZ2⟩
       case key =>
        rintro  r ⟨bw, kC, kI, kR, kX, kY, pZ⟩
        try dsimp only
        refine rd1_ 7 (fun K hK => ?br12009)
        case br12009 =>
         go_simp
         go_at_call 222
         refine (l6Less_n (n := xs.length) w9.heap.size gy cy nx (ptE xs k L) (us.set k (Value.slice Ae L.length ce)) putE_len (by omega) xid j hj2 xln Hxl.out Hp2.out hlb Hroot.out Zl HZl.out _ pZ).mono ?_
         rintro e q ⟨g2, c2, rfl, hz, hg⟩
         have bw2 := bw.trans hg
         have kY2 := blk_gV kY hg (by omega)
         have kC2 := blk_gV kC hg (by omega)
         have kI2 := blk_gV kI hg (by omega)
         have kX2 := blk_gV kX hg (by omega)
         have kR2 := blk_gV kR hg (by omega)
         have pQ2 := hz
         refine hK.out _ _ (by exact ⟨kY2.get 0 rfl, kY2.get 1 rfl, kC2.get 1 rfl, kI2.get 0 rfl⟩) (fun _ => ?_)
         clear hK K
         try simp only [Act.put, pT_, pZ_, pS_]
         exact key_ul3_4_7 c2 g2 q ⟨bw2, kC2, kI2, kR2, kX2, kY2, pQ2⟩
      case key =>
       rintro c2 g2 r ⟨bw, kC, kI, kR, kX, kY, pQ⟩
       try dsimp only
       refine rd1_ 9 (fun K hK => ?br12010)
       case br12010 =>
        obtain ⟨uz, pQ⟩ := pQ
        have kX9 := (kX.put 0 (.int .i64 nx) #[.int .i64 nx, .slice none 0 0] rfl).put 1 (.slice (some ⟨g2, 0, none⟩) Zl.length c2) #[.int .i64 nx, .slice (some ⟨g2, 0, none⟩) Zl.length c2] rfl
        have kY9 := (kY.far (p := ⟨(w.heap.size + 1 + 1), 0, none⟩) (show py ≠ (w.heap.size + 1 + 1) by omega) (.int .i64 nx)).far (p := ⟨(w.heap.size + 1 + 1), 1, none⟩) (show py ≠ (w.heap.size + 1 + 1) by omega) (.slice (some ⟨g2, 0, none⟩) Zl.length c2)
        have kC9 := (kC.far (p := ⟨(w.heap.size + 1 + 1), 0, none⟩) (show (w.heap.size + 1) ≠ (w.heap.size + 1 + 1) by omega) (.int .i64 nx)).far (p := ⟨(w.heap.size + 1 + 1), 1, none⟩) (show (w.heap.size + 1) ≠ (w.heap.size + 1 + 1) by omega) (.slice (some ⟨g2, 0, none⟩) Zl.length c2)
        have kI9 := (kI.far (p := ⟨(w.heap.size + 1 + 1), 0, none⟩) (show aI ≠ (w.heap.size + 1 + 1) by omega) (.int .i64 nx)).far (p := ⟨(w.heap.size + 1 + 1), 1, none⟩) (show aI ≠ (w.heap.size + 1 + 1) by omega) (.slice (some ⟨g2, 0, none⟩) Zl.length c2)
        have kR9 := (kR.far (p := ⟨(w.heap.size + 1 + 1), 0, none⟩) (show (w.heap.size + 1 + 1 + 1) ≠ (w.heap.size + 1 + 1) by omega) (.int .i64 nx)).far (p := ⟨(w.heap.size + 1 + 1), 1, none⟩) (show (w.heap.size + 1 + 1 + 1) ≠ (w.heap.size + 1 + 1) by omega) (.slice (some ⟨g2, 0, none⟩) Zl.length c2)
        have Z9 := (pQ.farV kX 0 (.int .i64 nx)).farV (kX.put 0 (.int .i64 nx) #[.int .i64 nx, .slice none 0 0] rfl) 1 (.slice (some ⟨g2, 0, none⟩) Zl.length c2)
        have B9 : Below w.heap.size w r := belG BW16 bw (by omega)
        have B9' := belC (belC B9 (w.heap.size + 1 + 1) 0 (by omega) (.int .i64 nx)) (w.heap.size + 1 + 1) 1 (by omega) (.slice (some ⟨g2, 0, none⟩) Zl.length c2)
        obtain ⟨w19, hw19⟩ : ∃ W, (r.setCell ⟨(w.heap.size + 1 + 1), 0, none⟩ (.int .i64 nx)).setCell ⟨(w.heap.size + 1 + 1), 1, none⟩ (.slice (some ⟨g2, 0, none⟩) Zl.length c2) = W := ⟨_, rfl⟩
        rw [hw19] at kX9 kY9 kC9 kI9 kR9 Z9 B9'
        obtain ⟨xf0, xf1⟩ := kX.f2
        obtain ⟨xx0, xx1⟩ := kX.g2
        have xl := kX.lt
        go_simp
        refine hK.out _ _ (by first | exact ⟨kY9.get 0 rfl, kY9.get 1 rfl, kC9.get 1 rfl, kI9.get 0 rfl⟩ | (rw [hw19]; exact ⟨kY9.get 0 rfl, kY9.get 1 rfl, kC9.get 1 rfl, kI9.get 0 rfl⟩)) (fun _ => ?_)
        clear hK K
        try simp only [Act.put, pT_, pZ_, pS_]
        try rw [hw19]
        clear hw19 xf0 xf1 xx0 xx1 xl kX kR kY kC kI B9 bw
        refine rd1_ 10 (fun K hK => ?br12011)
        case br12011 =>
         have kR10 := ((((kR9.put 0 (.int .i64 0) #[.int .i64 0, .int .i64 0, .string ⟨#[]⟩, .string ⟨#[]⟩] rfl).put 1 (.int .i64 0) #[.int .i64 0, .int .i64 0, .string ⟨#[]⟩, .string ⟨#[]⟩] rfl).put 2 (.string ⟨#[]⟩) #[.int .i64 0, .int .i64 0, .string ⟨#[]⟩, .string ⟨#[]⟩] rfl).put 3 (.string ⟨#[]⟩) #[.int .i64 0, .int .i64 0, .string ⟨#[]⟩, .string ⟨#[]⟩] rfl)
         have kX10 := ((((kX9.far (p := ⟨(w.heap.size + 1 + 1 + 1), 0, none⟩) (show (w.heap.size + 1 + 1) ≠ (w.heap.size + 1 + 1 + 1) by omega) (.int .i64 0)).far (p := ⟨(w.heap.size + 1 + 1 + 1), 1, none⟩) (show (w.heap.size + 1 + 1) ≠ (w.heap.size + 1 + 1 + 1) by omega) (.int .i64 0)).far (p := ⟨(w.heap.size + 1 + 1 + 1), 2, none⟩) (show (w.heap.size + 1 + 1) ≠ (w.heap.size + 1 + 1 + 1) by omega) (.string ⟨#[]⟩)).far (p := ⟨(w.heap.size + 1 + 1 + 1), 3, none⟩) (show (w.heap.size + 1 + 1) ≠ (w.heap.size + 1 + 1 + 1) by omega) (.string ⟨#[]⟩))
         have kY10 := ((((kY9.far (p := ⟨(w.heap.size + 1 + 1 + 1), 0, none⟩) (show py ≠ (w.heap.size + 1 + 1 + 1) by omega) (.int .i64 0)).far (p := ⟨(w.heap.size + 1 + 1 + 1), 1, none⟩) (show py ≠ (w.heap.size + 1 + 1 + 1) by omega) (.int .i64 0)).far (p := ⟨(w.heap.size + 1 + 1 + 1), 2, none⟩) (show py ≠ (w.heap.size + 1 + 1 + 1) by omega) (.string ⟨#[]⟩)).far (p := ⟨(w.heap.size + 1 + 1 + 1), 3, none⟩) (show py ≠ (w.heap.size + 1 + 1 + 1) by omega) (.string ⟨#[]⟩))
         have kC10 := ((((kC9.far (p := ⟨(w.heap.size + 1 + 1 + 1), 0, none⟩) (show (w.heap.size + 1) ≠ (w.heap.size + 1 + 1 + 1) by omega) (.int .i64 0)).far (p := ⟨(w.heap.size + 1 + 1 + 1), 1, none⟩) (show (w.heap.size + 1) ≠ (w.heap.size + 1 + 1 + 1) by omega) (.int .i64 0)).far (p := ⟨(w.heap.size + 1 + 1 + 1), 2, none⟩) (show (w.heap.size + 1) ≠ (w.heap.size + 1 + 1 + 1) by omega) (.string ⟨#[]⟩)).far (p := ⟨(w.heap.size + 1 + 1 + 1), 3, none⟩) (show (w.heap.size + 1) ≠ (w.heap.size + 1 + 1 + 1) by omega) (.string ⟨#[]⟩))
         have kI10 := ((((kI9.far (p := ⟨(w.heap.size + 1 + 1 + 1), 0, none⟩) (show aI ≠ (w.heap.size + 1 + 1 + 1) by omega) (.int .i64 0)).far (p := ⟨(w.heap.size + 1 + 1 + 1), 1, none⟩) (show aI ≠ (w.heap.size + 1 + 1 + 1) by omega) (.int .i64 0)).far (p := ⟨(w.heap.size + 1 + 1 + 1), 2, none⟩) (show aI ≠ (w.heap.size + 1 + 1 + 1) by omega) (.string ⟨#[]⟩)).far (p := ⟨(w.heap.size + 1 + 1 + 1), 3, none⟩) (show aI ≠ (w.heap.size + 1 + 1 + 1) by omega) (.string ⟨#[]⟩))
         have B10 := (belC (belC (belC (belC B9' (w.heap.size + 1 + 1 + 1) 0 (by omega) (.int .i64 0)) (w.heap.size + 1 + 1 + 1) 1 (by omega) (.int .i64 0)) (w.heap.size + 1 + 1 + 1) 2 (by omega) (.string ⟨#[]⟩)) (w.heap.size + 1 + 1 + 1) 3 (by omega) (.string ⟨#[]⟩))
         have Z10 := Z9.far4 kR9 (.int .i64 0) (.int .i64 0) (.string ⟨#[]⟩) (.string ⟨#[]⟩)
         obtain ⟨w20, hw20⟩ : ∃ W, ((((w19.setCell ⟨(w.heap.size + 1 + 1 + 1), 0, none⟩ (.int .i64 0)).setCell ⟨(w.heap.size + 1 + 1 + 1), 1, none⟩ (.int .i64 0)).setCell ⟨(w.heap.size + 1 + 1 + 1), 2, none⟩ (.string ⟨#[]⟩)).setCell ⟨(w.heap.size + 1 + 1 + 1), 3, none⟩ (.string ⟨#[]⟩)) = W := ⟨_, rfl⟩
         rw [hw20] at kX10 kY10 kC10 kI10 kR10 Z10 B10
         obtain ⟨xf0, xf1, xf2, xf3⟩ := kR9.f4
         obtain ⟨xx0, xx1, xx2, xx3⟩ := kR9.g4
         have xl := kR9.lt
         go_simp
         refine hK.out _ _ (by first | exact ⟨kY10.get 0 rfl, kY10.get 1 rfl, kC10.get 1 rfl, kI10.get 0 rfl⟩ | (rw [hw20]; exact ⟨kY10.get 0 rfl, kY10.get 1 rfl, kC10.get 1 rfl, kI10.get 0 rfl⟩)) (fun _ => ?_)
         clear hK K
         try simp only [Act.put, pT_, pZ_, pS_]
         try rw [hw20]
         clear hw20
         refine wpAnyH_done (by kernel_rfl) ?_ _
         obtain ⟨x_0, x_1⟩ := kX10.g2
         obtain ⟨r_0, r_1, r_2, r_3⟩ := kR10.g4
         go_wp2
         have hun := QV.unlink Hq.out hk hi Hf.out (m := j) hj (by show xs[j].id = xs[k].es[i].d; rw [HX.out, HE.out]; exact HJ.out.2.1) (by show xs[j].es = []; rw [HX.out]; exact Hxe.out)
         simp only [HP.out, HX.out] at hun
         rw [HZl.out] at hun
         refine bodyPost_ret (v := .tuple #[.agg #[.int .i64 nx, .slice (some ⟨g2, 0, none⟩) Zl.length c2], .agg #[.int .i64 0, .int .i64 0, .string ⟨#[]⟩, .string ⟨#[]⟩]]) (by simp [results, Tryz.results169, go_sem, x_0, x_1, r_0, r_1, r_2, r_3]) rfl ⟨⟨_, ⟨nx, Zl⟩, _, rfl, ⟨_, _, _, _, rfl⟩, hun.mono (by omega), .inr ⟨g2, c2, uz, rfl, Z10.more (by omega)⟩⟩, B10⟩
   ·skip
    have i_4 := kI11.get 4 rfl
    by_cases hkd2 : xkd = 2
    ·have t9 : (xkd == 2) = true := by rw [hkd2]; rfl
     clear hkd2
     by_cases hm0 : (0 : Int) < (mx : Int)
     ·go_upto_region 16 with fail
      clear c_0 t9 i_4
      obtain ⟨v_0, v_1⟩ := kV11.g2
      obtain ⟨x_0, x_1⟩ := kX11.g2
      obtain ⟨r_0, r_1, r_2, r_3⟩ := kR11.g4
      obtain ⟨xf0, xf1⟩ := kX11.f2
      have xl := kX11.lt
      obtain ⟨rf0, rf1, rf2, rf3⟩ := kR11.f4
      have rl := kR11.lt
      go_wp2
      refine foldBPL ?_
      intro wf hwf
      obtain ⟨hX, hR, hB⟩ : Blk wf (w.heap.size + 1 + 1) 26 #[.int .i64 nx, .slice (some ⟨b, of_, none⟩) xs.length c] /\ Blk wf (w.heap.size + 1 + 1 + 1) 54 #[.int .i64 6, .int .i64 0, .string ⟨#[]⟩, .string ⟨#[]⟩] /\ Below w.heap.size w wf := by
       rw [hwf]
       first
        | exact two_putL _ _ _ _ _ _ kX11 kR11 (by omega) B11 (by omega) (by omega)
        | exact two_putL _ _ _ _ _ _ kX11.drew kR11.drew (by omega) B11.drew (by omega) (by omega)
      clear hwf x_0 x_1 r_0 r_1 r_2 r_3
      obtain ⟨x_0, x_1⟩ := hX.g2
      obtain ⟨r_0, r_1, r_2, r_3⟩ := hR.g4
      refine bodyPost_ret (v := .tuple #[.agg #[.int .i64 nx, .slice (some ⟨b, of_, none⟩) xs.length c], .agg #[.int .i64 6, .int .i64 0, .string ⟨#[]⟩, .string ⟨#[]⟩]]) (by simp [results, Tryz.results169, go_sem, x_0, x_1, r_0, r_1, r_2, r_3]) rfl ⟨⟨_, _, _, rfl, ⟨_, _, _, _, rfl⟩, Hqm.out, .inl ⟨rfl, rfl⟩⟩, hB⟩
     ·go_upto_region 17 with fail
      clear c_0 t9 i_4
      have Hxe : Hid (xes = []) := Lib.hid (List.length_eq_zero_iff.1 (by have := Hmx.out; omega))
      have Hen2 := Lib.hid (fun W hW => l6Ents_own w9.heap.size gy cy nx xs us (by omega) a k hk Hp.out W hW)
      simp only [Hm.out] at Hen2
      have HdO := Lib.hid (Hq.out.dir _ (List.getElem_mem hk))
      have hlo11 : w9.heap.size <= w11.heap.size := by have := Y11.out.hi; omega
      obtain ⟨y_0, y_1⟩ := kY11.g2
      have c_1 := kC11.get 1 rfl
      have c_2 := kC11.get 2 rfl
      go_region_held3 (fun w' => w'.cell? ⟨py, 0, none⟩ = some (.int .i64 nx) /\ w'.cell? ⟨py, 1, none⟩ = some (.slice (some ⟨gy, 0, none⟩) xs.length cy) /\ w'.cell? ⟨w.heap.size + 1, 1, none⟩ = some (.int .i64 a) /\ w'.cell? ⟨w.heap.size + 1, 2, none⟩ = some (.string s))
       (first | go_keep | (refine ⟨keep1 hb15 ?_, keep1 hb15 ?_, keep1 hb15 ?_, keep1 hb15 ?_⟩ <;> go_keep) | (refine ⟨keep1 hb16 ?_, keep1 hb16 ?_, keep1 hb16 ?_, keep1 hb16 ?_⟩ <;> go_keep))
       (first
        | (go_at_call 220; refine (Hen2.out _ (Y11.out.below (bel0 w11).drew)).mono ?_; rintro e w15 ⟨vk, _, rfl, hok, hb15⟩)
        | (go_at_call 179; refine (l5Drop_any w9.heap.size m vk _ HdO.out Hnm.out s (by omega) _ (Nat.le_trans hlo11 hb15.size) hok).mono ?_; rintro e w16 ⟨⟨L, b', vL, nL, hP, hnL, rfl, hoL⟩, hb16⟩))
      clear y_0 y_1 c_1 c_2
      subst hnL
      obtain ⟨Ae, ce, rfl, _⟩ := own_vals hoL
      have b16 : Below w11.heap.size w11 w16 := ((bel0 w11).drew.trans hb15).trans (hb16.mono hb15.size)
      have HoL := Lib.hid hoL
      have Y16 := Lib.hid (Y11.out.below b16)
      have BW16 := belN B11 b16
      have kY16 := kY11.below b16 kY11.lt
      have kC16 := kC11.below b16 kC11.lt
      have kI16 := kI11.below b16 kI11.lt
      have kX16 := kX11.below b16 kX11.lt
      have kR16 := kR11.below b16 kR11.lt
      have HP := Lib.hid hP
      have hgD := Y16.out.hi
      have hkX := kX16.lt
      have hkR := kR16.lt
      clear hP hoL hok hb15 hb16 b16 Y11 B11 kY11 kC11 kI11 kX11 kR11 kV11 kE11
      have hkx : j < xs.length := hj
      have hjk : j ≠ k := by rintro rfl; have h1 := Hm.out; rw [HX.out] at h1; simp only [Hxe.out, List.length_nil] at h1; omega
      have hj2 : j < (ptE xs k L).length := by rw [putE_len]; exact hj
      have hxl : (ptE xs k L)[j].ln = xln := by rw [putE_ne hk hjk hj2, HX.out]
      have hp2 : plc (ptE xs k L) xid = (j : Int) := by rw [putE_plc hk, HJ.out.2.1]; exact HJ.out.1
      have hlb : -1000000 <= xln /\ xln <= 1000000 := by have h1 := Hq.out.ln _ (List.getElem_mem hj); rw [HX.out] at h1; simp only at h1; omega
      have Hroot : Hid (∃ x ∈ ptE xs k L, x.id ≠ xid) := Lib.hid (by obtain ⟨y, hy, hy1⟩ := Hq.out.root; have : y.id ∈ (ptE xs k L).map (·.id) := (by rw [putE_ids hk]; exact List.mem_map_of_mem hy); obtain ⟨z, hz, h4⟩ := List.mem_map.1 this; exact ⟨z, hz, by rw [h4, hy1, HJ.out.2.1]; exact fun e => HJ.out.2.2 e.symm⟩)
      obtain ⟨Zl, hZl⟩ : ∃ Zl, lessV (ptE xs k L) j xid (xln - 1) = Zl := ⟨_, rfl⟩
      have HZl := Lib.hid hZl
      have Hxl := Lib.hid hxl
      have Hp2 := Lib.hid hp2
      clear hZl hxl hp2
      go_upto_region 18 with fail
      refine wp_region_held_drew (S := fun w' => w'.cell? ⟨py, 0, none⟩ = some (.int .i64 nx) /\ w'.cell? ⟨py, 1, none⟩ = some (.slice (some ⟨gy, 0, none⟩) xs.length cy) /\ w'.cell? ⟨w.heap.size + 1, 1, none⟩ = some (.int .i64 a) /\ w'.cell? ⟨aI, 0, none⟩ = some (.int .i64 xid)) (by kernel_rfl) (by exact ⟨kY16.get 0 rfl, kY16.get 1 rfl, kC16.get 1 rfl, kI16.get 0 rfl⟩) (fun hHeld => ?_)
      clear hHeld
      refine foldH ?_
      intro r hr0
      have bw : w16.grownBy r (some gy) := by rw [hr0]; exact gb_below (grown_refl _ _) (bel0 w16).drew
      have kY : Blk r py 26 #[.int .i64 nx, .slice (some ⟨gy, 0, none⟩) xs.length cy] := by rw [hr0]; exact kY16.drew
      have kC : Blk r (w.heap.size + 1) 95 #[.int .i64 4, .int .i64 a, .string s, .int .i64 tg, .string nm, .string dt] := by rw [hr0]; exact kC16.drew
      have kI : Blk r aI 36 #[.int .i64 xid, .int .i64 xkd, .int .i64 xln, .string xs_, .slice Ax mx cx] := by rw [hr0]; exact kI16.drew
      have kX : Blk r (w.heap.size + 1 + 1) 26 #[.int .i64 0, .slice none 0 0] := by rw [hr0]; exact kX16.drew
      have kR : Blk r (w.heap.size + 1 + 1 + 1) 54 #[.int .i64 0, .int .i64 0, .string ⟨#[]⟩, .string ⟨#[]⟩] := by rw [hr0]; exact kR16.drew
      have pY : YR r w9.heap.size gy cy xs us := by rw [hr0]; exact (Y16.out.below (bel0 w16).drew)
      have pL : World.ownsRow r w9.heap.size 38 4 (Value.slice Ae L.length ce) L.length (ES L) := by rw [hr0]; exact (own_below HoL.out (bel0 w16).drew (Nat.le_refl _))
      clear hr0
      apply mem4_nnw (P := fun c2 g2 q => w16.grownBy q (some gy) /\ Blk q (w.heap.size + 1) 95 #[.int .i64 4, .int .i64 a, .string s, .int .i64 tg, .string nm, .string dt] /\ Blk q aI 36 #[.int .i64 xid, .int .i64 xkd, .int .i64 xln, .string xs_, .slice Ax mx cx] /\ Blk q (w.heap.size + 1 + 1 + 1) 54 #[.int .i64 0, .int .i64 0, .string ⟨#[]⟩, .string ⟨#[]⟩] /\ Blk q (w.heap.size + 1 + 1) 26 #[.int .i64 0, .slice none 0 0] /\ Blk q py 26 #[.int .i64 nx, .slice (some ⟨gy, 0, none⟩) xs.length cy] /\ (∃ uz, YR q w9.heap.size g2 c2 Zl uz))
      case use =>
       intro key_ul4_4_7
       apply mem4_w (P := fun  q => w16.grownBy q (some gy) /\ Blk q (w.heap.size + 1) 95 #[.int .i64 4, .int .i64 a, .string s, .int .i64 tg, .string nm, .string dt] /\ Blk q aI 36 #[.int .i64 xid, .int .i64 xkd, .int .i64 xln, .string xs_, .slice Ax mx cx] /\ Blk q (w.heap.size + 1 + 1 + 1) 54 #[.int .i64 0, .int .i64 0, .string ⟨#[]⟩, .string ⟨#[]⟩] /\ Blk q (w.heap.size + 1 + 1) 26 #[.int .i64 0, .slice none 0 0] /\ Blk q py 26 #[.int .i64 nx, .slice (some ⟨gy, 0, none⟩) xs.length cy] /\ YR q w9.heap.size gy cy (ptE xs k L) (us.set k (Value.slice Ae L.length ce)))
       case use =>
        intro key_ul4_4
        refine tkW_ 0 ?_ (hS := by exact ⟨kY.get 0 rfl, kY.get 1 rfl, kC.get 1 rfl, kI.get 0 rfl⟩)
        refine tkW_ 1 ?_ (hS := by exact ⟨kY.get 0 rfl, kY.get 1 rfl, kC.get 1 rfl, kI.get 0 rfl⟩)
        refine tkW_ 2 ?_ (hS := by exact ⟨kY.get 0 rfl, kY.get 1 rfl, kC.get 1 rfl, kI.get 0 rfl⟩)
        refine tkW_ 3 ?_ (hS := by exact ⟨kY.get 0 rfl, kY.get 1 rfl, kC.get 1 rfl, kI.get 0 rfl⟩)
        refine tkW_ 5 ?_ (hS := by exact ⟨kY.get 0 rfl, kY.get 1 rfl, kC.get 1 rfl, kI.get 0 rfl⟩)
        refine tkW_ 6 ?_ (hS := by exact ⟨kY.get 0 rfl, kY.get 1 rfl, kC.get 1 rfl, kI.get 0 rfl⟩)
        refine tkW_ 8 ?_ (hS := by exact ⟨kY.get 0 rfl, kY.get 1 rfl, kC.get 1 rfl, kI.get 0 rfl⟩)
        refine rd1_ 4 (fun K hK => ?br13008)
        case br13008 =>
         go_simp
         go_at_call 221
         refine (l6With_n (n := xs.length) w9.heap.size gy cy nx xs us rfl a k hk (Value.slice Ae L.length ce) L _ pY Hp.out (by omega) pL).mono ?_
         rintro e q ⟨rfl, hZ, hg⟩
         have bw2 := bw.trans hg
         have kY2 := blk_gV kY hg (by omega)
         have kC2 := blk_gV kC hg (by omega)
         have kI2 := blk_gV kI hg (by omega)
         have kX2 := blk_gV kX hg (by omega)
         have kR2 := blk_gV kR hg (by omega)
         have pZ2 := hZ
         refine hK.out _ _ (by exact ⟨kY2.get 0 rfl, kY2.get 1 rfl, kC2.get 1 rfl, kI2.get 0 rfl⟩) (fun _ => ?_)
         clear hK K
         try simp only [Act.put, pT_, pZ_, pS_]
         exact key_ul4_4  q ⟨bw2, kC2, kI2, kR2, kX2, kY2, pZ2⟩
       case key =>
        rintro  r ⟨bw, kC, kI, kR, kX, kY, pZ⟩
        try dsimp only
        refine rd1_ 7 (fun K hK => ?br13009)
        case br13009 =>
         go_simp
         go_at_call 222
         refine (l6Less_n (n := xs.length) w9.heap.size gy cy nx (ptE xs k L) (us.set k (Value.slice Ae L.length ce)) putE_len (by omega) xid j hj2 xln Hxl.out Hp2.out hlb Hroot.out Zl HZl.out _ pZ).mono ?_
         rintro e q ⟨g2, c2, rfl, hz, hg⟩
         have bw2 := bw.trans hg
         have kY2 := blk_gV kY hg (by omega)
         have kC2 := blk_gV kC hg (by omega)
         have kI2 := blk_gV kI hg (by omega)
         have kX2 := blk_gV kX hg (by omega)
         have kR2 := blk_gV kR hg (by omega)
         have pQ2 := hz
         refine hK.out _ _ (by exact ⟨kY2.get 0 rfl, kY2.get 1 rfl, kC2.get 1 rfl, kI2.get 0 rfl⟩) (fun _ => ?_)
         clear hK K
         try simp only [Act.put, pT_, pZ_, pS_]
         exact key_ul4_4_7 c2 g2 q ⟨bw2, kC2, kI2, kR2, kX2, kY2, pQ2⟩
      case key =>
       rintro c2 g2 r ⟨bw, kC, kI, kR, kX, kY, pQ⟩
       try dsimp only
       refine rd1_ 9 (fun K hK => ?br13010)
       case br13010 =>
        obtain ⟨uz, pQ⟩ := pQ
        have kX9 := (kX.put 0 (.int .i64 nx) #[.int .i64 nx, .slice none 0 0] rfl).put 1 (.slice (some ⟨g2, 0, none⟩) Zl.length c2) #[.int .i64 nx, .slice (some ⟨g2, 0, none⟩) Zl.length c2] rfl
        have kY9 := (kY.far (p := ⟨(w.heap.size + 1 + 1), 0, none⟩) (show py ≠ (w.heap.size + 1 + 1) by omega) (.int .i64 nx)).far (p := ⟨(w.heap.size + 1 + 1), 1, none⟩) (show py ≠ (w.heap.size + 1 + 1) by omega) (.slice (some ⟨g2, 0, none⟩) Zl.length c2)
        have kC9 := (kC.far (p := ⟨(w.heap.size + 1 + 1), 0, none⟩) (show (w.heap.size + 1) ≠ (w.heap.size + 1 + 1) by omega) (.int .i64 nx)).far (p := ⟨(w.heap.size + 1 + 1), 1, none⟩) (show (w.heap.size + 1) ≠ (w.heap.size + 1 + 1) by omega) (.slice (some ⟨g2, 0, none⟩) Zl.length c2)
        have kI9 := (kI.far (p := ⟨(w.heap.size + 1 + 1), 0, none⟩) (show aI ≠ (w.heap.size + 1 + 1) by omega) (.int .i64 nx)).far (p := ⟨(w.heap.size + 1 + 1), 1, none⟩) (show aI ≠ (w.heap.size + 1 + 1) by omega) (.slice (some ⟨g2, 0, none⟩) Zl.length c2)
        have kR9 := (kR.far (p := ⟨(w.heap.size + 1 + 1), 0, none⟩) (show (w.heap.size + 1 + 1 + 1) ≠ (w.heap.size + 1 + 1) by omega) (.int .i64 nx)).far (p := ⟨(w.heap.size + 1 + 1), 1, none⟩) (show (w.heap.size + 1 + 1 + 1) ≠ (w.heap.size + 1 + 1) by omega) (.slice (some ⟨g2, 0, none⟩) Zl.length c2)
        have Z9 := (pQ.farV kX 0 (.int .i64 nx)).farV (kX.put 0 (.int .i64 nx) #[.int .i64 nx, .slice none 0 0] rfl) 1 (.slice (some ⟨g2, 0, none⟩) Zl.length c2)
        have B9 : Below w.heap.size w r := belG BW16 bw (by omega)
        have B9' := belC (belC B9 (w.heap.size + 1 + 1) 0 (by omega) (.int .i64 nx)) (w.heap.size + 1 + 1) 1 (by omega) (.slice (some ⟨g2, 0, none⟩) Zl.length c2)
        obtain ⟨w19, hw19⟩ : ∃ W, (r.setCell ⟨(w.heap.size + 1 + 1), 0, none⟩ (.int .i64 nx)).setCell ⟨(w.heap.size + 1 + 1), 1, none⟩ (.slice (some ⟨g2, 0, none⟩) Zl.length c2) = W := ⟨_, rfl⟩
        rw [hw19] at kX9 kY9 kC9 kI9 kR9 Z9 B9'
        obtain ⟨xf0, xf1⟩ := kX.f2
        obtain ⟨xx0, xx1⟩ := kX.g2
        have xl := kX.lt
        go_simp
        refine hK.out _ _ (by first | exact ⟨kY9.get 0 rfl, kY9.get 1 rfl, kC9.get 1 rfl, kI9.get 0 rfl⟩ | (rw [hw19]; exact ⟨kY9.get 0 rfl, kY9.get 1 rfl, kC9.get 1 rfl, kI9.get 0 rfl⟩)) (fun _ => ?_)
        clear hK K
        try simp only [Act.put, pT_, pZ_, pS_]
        try rw [hw19]
        clear hw19 xf0 xf1 xx0 xx1 xl kX kR kY kC kI B9 bw
        refine rd1_ 10 (fun K hK => ?br13011)
        case br13011 =>
         have kR10 := ((((kR9.put 0 (.int .i64 0) #[.int .i64 0, .int .i64 0, .string ⟨#[]⟩, .string ⟨#[]⟩] rfl).put 1 (.int .i64 0) #[.int .i64 0, .int .i64 0, .string ⟨#[]⟩, .string ⟨#[]⟩] rfl).put 2 (.string ⟨#[]⟩) #[.int .i64 0, .int .i64 0, .string ⟨#[]⟩, .string ⟨#[]⟩] rfl).put 3 (.string ⟨#[]⟩) #[.int .i64 0, .int .i64 0, .string ⟨#[]⟩, .string ⟨#[]⟩] rfl)
         have kX10 := ((((kX9.far (p := ⟨(w.heap.size + 1 + 1 + 1), 0, none⟩) (show (w.heap.size + 1 + 1) ≠ (w.heap.size + 1 + 1 + 1) by omega) (.int .i64 0)).far (p := ⟨(w.heap.size + 1 + 1 + 1), 1, none⟩) (show (w.heap.size + 1 + 1) ≠ (w.heap.size + 1 + 1 + 1) by omega) (.int .i64 0)).far (p := ⟨(w.heap.size + 1 + 1 + 1), 2, none⟩) (show (w.heap.size + 1 + 1) ≠ (w.heap.size + 1 + 1 + 1) by omega) (.string ⟨#[]⟩)).far (p := ⟨(w.heap.size + 1 + 1 + 1), 3, none⟩) (show (w.heap.size + 1 + 1) ≠ (w.heap.size + 1 + 1 + 1) by omega) (.string ⟨#[]⟩))
         have kY10 := ((((kY9.far (p := ⟨(w.heap.size + 1 + 1 + 1), 0, none⟩) (show py ≠ (w.heap.size + 1 + 1 + 1) by omega) (.int .i64 0)).far (p := ⟨(w.heap.size + 1 + 1 + 1), 1, none⟩) (show py ≠ (w.heap.size + 1 + 1 + 1) by omega) (.int .i64 0)).far (p := ⟨(w.heap.size + 1 + 1 + 1), 2, none⟩) (show py ≠ (w.heap.size + 1 + 1 + 1) by omega) (.string ⟨#[]⟩)).far (p := ⟨(w.heap.size + 1 + 1 + 1), 3, none⟩) (show py ≠ (w.heap.size + 1 + 1 + 1) by omega) (.string ⟨#[]⟩))
         have kC10 := ((((kC9.far (p := ⟨(w.heap.size + 1 + 1 + 1), 0, none⟩) (show (w.heap.size + 1) ≠ (w.heap.size + 1 + 1 + 1) by omega) (.int .i64 0)).far (p := ⟨(w.heap.size + 1 + 1 + 1), 1, none⟩) (show (w.heap.size + 1) ≠ (w.heap.size + 1 + 1 + 1) by omega) (.int .i64 0)).far (p := ⟨(w.heap.size + 1 + 1 + 1), 2, none⟩) (show (w.heap.size + 1) ≠ (w.heap.size + 1 + 1 + 1) by omega) (.string ⟨#[]⟩)).far (p := ⟨(w.heap.size + 1 + 1 + 1), 3, none⟩) (show (w.heap.size + 1) ≠ (w.heap.size + 1 + 1 + 1) by omega) (.string ⟨#[]⟩))
         have kI10 := ((((kI9.far (p := ⟨(w.heap.size + 1 + 1 + 1), 0, none⟩) (show aI ≠ (w.heap.size + 1 + 1 + 1) by omega) (.int .i64 0)).far (p := ⟨(w.heap.size + 1 + 1 + 1), 1, none⟩) (show aI ≠ (w.heap.size + 1 + 1 + 1) by omega) (.int .i64 0)).far (p := ⟨(w.heap.size + 1 + 1 + 1), 2, none⟩) (show aI ≠ (w.heap.size + 1 + 1 + 1) by omega) (.string ⟨#[]⟩)).far (p := ⟨(w.heap.size + 1 + 1 + 1), 3, none⟩) (show aI ≠ (w.heap.size + 1 + 1 + 1) by omega) (.string ⟨#[]⟩))
         have B10 := (belC (belC (belC (belC B9' (w.heap.size + 1 + 1 + 1) 0 (by omega) (.int .i64 0)) (w.heap.size + 1 + 1 + 1) 1 (by omega) (.int .i64 0)) (w.heap.size + 1 + 1 + 1) 2 (by omega) (.string ⟨#[]⟩)) (w.heap.size + 1 + 1 + 1) 3 (by omega) (.string ⟨#[]⟩))
         have Z10 := Z9.far4 kR9 (.int .i64 0) (.int .i64 0) (.string ⟨#[]⟩) (.string ⟨#[]⟩)
         obtain ⟨w20, hw20⟩ : ∃ W, ((((w19.setCell ⟨(w.heap.size + 1 + 1 + 1), 0, none⟩ (.int .i64 0)).setCell ⟨(w.heap.size + 1 + 1 + 1), 1, none⟩ (.int .i64 0)).setCell ⟨(w.heap.size + 1 + 1 + 1), 2, none⟩ (.string ⟨#[]⟩)).setCell ⟨(w.heap.size + 1 + 1 + 1), 3, none⟩ (.string ⟨#[]⟩)) = W := ⟨_, rfl⟩
         rw [hw20] at kX10 kY10 kC10 kI10 kR10 Z10 B10
         obtain ⟨xf0, xf1, xf2, xf3⟩ := kR9.f4
         obtain ⟨xx0, xx1, xx2, xx3⟩ := kR9.g4
         have xl := kR9.lt
         go_simp
         refine hK.out _ _ (by first | exact ⟨kY10.get 0 rfl, kY10.get 1 rfl, kC10.get 1 rfl, kI10.get 0 rfl⟩ | (rw [hw20]; exact ⟨kY10.get 0 rfl, kY10.get 1 rfl, kC10.get 1 rfl, kI10.get 0 rfl⟩)) (fun _ => ?_)
         clear hK K
         try simp only [Act.put, pT_, pZ_, pS_]
         try rw [hw20]
         clear hw20
         refine wpAnyH_done (by kernel_rfl) ?_ _
         obtain ⟨x_0, x_1⟩ := kX10.g2
         obtain ⟨r_0, r_1, r_2, r_3⟩ := kR10.g4
         go_wp2
         have hun := QV.unlink Hq.out hk hi Hf.out (m := j) hj (by show xs[j].id = xs[k].es[i].d; rw [HX.out, HE.out]; exact HJ.out.2.1) (by show xs[j].es = []; rw [HX.out]; exact Hxe.out)
         simp only [HP.out, HX.out] at hun
         rw [HZl.out] at hun
         refine bodyPost_ret (v := .tuple #[.agg #[.int .i64 nx, .slice (some ⟨g2, 0, none⟩) Zl.length c2], .agg #[.int .i64 0, .int .i64 0, .string ⟨#[]⟩, .string ⟨#[]⟩]]) (by simp [results, Tryz.results169, go_sem, x_0, x_1, r_0, r_1, r_2, r_3]) rfl ⟨⟨_, ⟨nx, Zl⟩, _, rfl, ⟨_, _, _, _, rfl⟩, hun.mono (by omega), .inr ⟨g2, c2, uz, rfl, Z10.more (by omega)⟩⟩, B10⟩
    ·have t9 : (xkd == 2) = false := by simpa using hkd2
     clear hkd2
     go_upto_region 14 with fail
     clear c_0 t9 i_4
     obtain ⟨v_0, v_1⟩ := kV11.g2
     obtain ⟨x_0, x_1⟩ := kX11.g2
     obtain ⟨r_0, r_1, r_2, r_3⟩ := kR11.g4
     obtain ⟨xf0, xf1⟩ := kX11.f2
     have xl := kX11.lt
     obtain ⟨rf0, rf1, rf2, rf3⟩ := kR11.f4
     have rl := kR11.lt
     go_wp2
     refine foldBPL ?_
     intro wf hwf
     obtain ⟨hX, hR, hB⟩ : Blk wf (w.heap.size + 1 + 1) 26 #[.int .i64 nx, .slice (some ⟨b, of_, none⟩) xs.length c] /\ Blk wf (w.heap.size + 1 + 1 + 1) 54 #[.int .i64 4, .int .i64 0, .string ⟨#[]⟩, .string ⟨#[]⟩] /\ Below w.heap.size w wf := by
      rw [hwf]
      first
       | exact two_putL _ _ _ _ _ _ kX11 kR11 (by omega) B11 (by omega) (by omega)
       | exact two_putL _ _ _ _ _ _ kX11.drew kR11.drew (by omega) B11.drew (by omega) (by omega)
     clear hwf x_0 x_1 r_0 r_1 r_2 r_3
     obtain ⟨x_0, x_1⟩ := hX.g2
     obtain ⟨r_0, r_1, r_2, r_3⟩ := hR.g4
     refine bodyPost_ret (v := .tuple #[.agg #[.int .i64 nx, .slice (some ⟨b, of_, none⟩) xs.length c], .agg #[.int .i64 4, .int .i64 0, .string ⟨#[]⟩, .string ⟨#[]⟩]]) (by simp [results, Tryz.results169, go_sem, x_0, x_1, r_0, r_1, r_2, r_3]) rfl ⟨⟨_, _, _, rfl, ⟨_, _, _, _, rfl⟩, Hqm.out, .inl ⟨rfl, rfl⟩⟩, hB⟩
   ·skip
    obtain ⟨hnz, k2, hk2, hp2, hd2⟩ := H2.out (.inl rfl)
    try simp only at hk2 hp2 hd2
    have hnm2 := Hq.out.names hk2
    have Hent := Lib.hid (fun W hW => l6Ents_rd (.agg #[.int .i64 nx, .slice (some ⟨b, of_, none⟩) xs.length c]) ⟨nx, xs⟩ (show xs.length <= 10000000 by omega) tg k2 hk2 hp2 W hW)
    have Hpt := Lib.hid hp2
    have Hd2 := Lib.hid hd2
    try simp only at Hent hnm2
    have Hnm2 := Lib.hid hnm2.2
    have hm212 := hnm2.1
    obtain ⟨m2, hm2⟩ : ∃ m, xs[k2].es.length = m := ⟨_, rfl⟩
    have Hm2 := Lib.hid hm2
    simp only [hm2] at Hent hm212
    clear hm2 hp2 hd2 hnm2
    have i_4 := kI11.get 4 rfl
    clear i_4
    by_cases hkd2 : xkd = 2
    ·have t9 : (xkd == 2) = true := by rw [hkd2]; rfl
     clear hkd2
     go_upto_region 21 with fail
     clear c_0 t9
     obtain ⟨v_0, v_1⟩ := kV11.g2
     obtain ⟨x_0, x_1⟩ := kX11.g2
     obtain ⟨r_0, r_1, r_2, r_3⟩ := kR11.g4
     obtain ⟨xf0, xf1⟩ := kX11.f2
     have xl := kX11.lt
     obtain ⟨rf0, rf1, rf2, rf3⟩ := kR11.f4
     have rl := kR11.lt
     go_wp2
     refine foldBPL ?_
     intro wf hwf
     obtain ⟨hX, hR, hB⟩ : Blk wf (w.heap.size + 1 + 1) 26 #[.int .i64 nx, .slice (some ⟨b, of_, none⟩) xs.length c] /\ Blk wf (w.heap.size + 1 + 1 + 1) 54 #[.int .i64 5, .int .i64 0, .string ⟨#[]⟩, .string ⟨#[]⟩] /\ Below w.heap.size w wf := by
      rw [hwf]
      first
       | exact two_putL _ _ _ _ _ _ kX11 kR11 (by omega) B11 (by omega) (by omega)
       | exact two_putL _ _ _ _ _ _ kX11.drew kR11.drew (by omega) B11.drew (by omega) (by omega)
     clear hwf x_0 x_1 r_0 r_1 r_2 r_3
     obtain ⟨x_0, x_1⟩ := hX.g2
     obtain ⟨r_0, r_1, r_2, r_3⟩ := hR.g4
     refine bodyPost_ret (v := .tuple #[.agg #[.int .i64 nx, .slice (some ⟨b, of_, none⟩) xs.length c], .agg #[.int .i64 5, .int .i64 0, .string ⟨#[]⟩, .string ⟨#[]⟩]]) (by simp [results, Tryz.results169, go_sem, x_0, x_1, r_0, r_1, r_2, r_3]) rfl ⟨⟨_, _, _, rfl, ⟨_, _, _, _, rfl⟩, Hqm.out, .inl ⟨rfl, rfl⟩⟩, hB⟩
    ·have t9 : (xkd == 2) = false := by simpa using hkd2
     clear hkd2
     go_upto_region 22 with fail
     clear c_0 t9
     obtain ⟨v_0, v_1⟩ := kV11.g2
     have c_3 := kC11.get 3 rfl
     have c_4 := kC11.get 4 rfl
     go_region_held3 (fun w' => w'.cell? ⟨w.heap.size, 0, none⟩ = some (.int .i64 nx) /\ w'.cell? ⟨w.heap.size, 1, none⟩ = some (.slice (some ⟨b, of_, none⟩) xs.length c) /\ w'.cell? ⟨w.heap.size + 1, 3, none⟩ = some (.int .i64 tg) /\ w'.cell? ⟨w.heap.size + 1, 4, none⟩ = some (.string nm))
      (first | go_keep | (refine ⟨keep1 hb12 ?_, keep1 hb12 ?_, keep1 hb12 ?_, keep1 hb12 ?_⟩ <;> go_keep) | (refine ⟨keep1 hb13 ?_, keep1 hb13 ?_, keep1 hb13 ?_, keep1 hb13 ?_⟩ <;> go_keep))
      (first
       | (go_at_call 220; refine (Hent.out _ (hvv.out.next B11.drew)).mono ?_; rintro e w12 ⟨A5, c5, rfl, hr5, hb12⟩)
       | (go_at_call 219; refine (l5At_any A5 m2 c5 _ Hnm2.out (by omega) nm (by omega) _ ((hr5.below hb12).more hb12.size)).mono ?_; rintro e w13 ⟨r, rfl, hidx, hb13⟩))
     clear v_0 v_1 c_3 c_4
     have b13 : Below w11.heap.size w11 w13 := (Below.refl w11.heap.size w11).drew.trans (hb12.trans (hb13.mono hb12.size))
     have B13 := belN B11 b13
     have Y13 := Lib.hid (Y11.out.below b13)
     have kV13 := kV11.below b13 kV11.lt
     have kC13 := kC11.below b13 kC11.lt
     have kX13 := kX11.below b13 kX11.lt
     have kR13 := kR11.below b13 kR11.lt
     have kI13 := kI11.below b13 kI11.lt
     have kY13 := kY11.below b13 kY11.lt
     clear kV11 kC11 kX11 kR11 kI11 kY11
     clear hr5 b13 hb12 hb13 Y11 B11 kE11
     rcases hidx with ⟨rfl, hf2⟩ | ⟨i2, hi2, rfl, hf2⟩
     rotate_left
     ·clear hf2 hi2
      have q0 : (0 : Int) <= (i2 : Int) := by omega
      obtain ⟨v_0, v_1⟩ := kV13.g2
      obtain ⟨x_0, x_1⟩ := kX13.g2
      obtain ⟨r_0, r_1, r_2, r_3⟩ := kR13.g4
      obtain ⟨xf0, xf1⟩ := kX13.f2
      have xl := kX13.lt
      obtain ⟨rf0, rf1, rf2, rf3⟩ := kR13.f4
      have rl := kR13.lt
      go_wp2
      refine foldBPL ?_
      intro wf hwf
      obtain ⟨hX, hR, hB⟩ : Blk wf (w.heap.size + 1 + 1) 26 #[.int .i64 nx, .slice (some ⟨b, of_, none⟩) xs.length c] /\ Blk wf (w.heap.size + 1 + 1 + 1) 54 #[.int .i64 3, .int .i64 0, .string ⟨#[]⟩, .string ⟨#[]⟩] /\ Below w.heap.size w wf := by
       rw [hwf]
       first
        | exact two_putL _ _ _ _ _ _ kX13 kR13 (by omega) B13 (by omega) (by omega)
        | exact two_putL _ _ _ _ _ _ kX13.drew kR13.drew (by omega) B13.drew (by omega) (by omega)
      clear hwf x_0 x_1 r_0 r_1 r_2 r_3
      obtain ⟨x_0, x_1⟩ := hX.g2
      obtain ⟨r_0, r_1, r_2, r_3⟩ := hR.g4
      refine bodyPost_ret (v := .tuple #[.agg #[.int .i64 nx, .slice (some ⟨b, of_, none⟩) xs.length c], .agg #[.int .i64 3, .int .i64 0, .string ⟨#[]⟩, .string ⟨#[]⟩]]) (by simp [results, Tryz.results169, go_sem, x_0, x_1, r_0, r_1, r_2, r_3]) rfl ⟨⟨_, _, _, rfl, ⟨_, _, _, _, rfl⟩, Hqm.out, .inl ⟨rfl, rfl⟩⟩, hB⟩
     clear hf2
     obtain ⟨v_0, v_1⟩ := kV13.g2
     have c_3 := kC13.get 3 rfl
     go_wp2_with fail
     refine (Hent.out w13 (hvv.out.next B13)).mono ?_
     rintro e w14 ⟨A7, c7, rfl, _, hb14⟩
     clear v_0 v_1 c_3
     have B14 := belN B13 hb14
     have Y14 := Lib.hid (Y13.out.below hb14)
     have kV14 := kV13.below hb14 kV13.lt
     have kC14 := kC13.below hb14 kC13.lt
     have kX14 := kX13.below hb14 kX13.lt
     have kR14 := kR13.below hb14 kR13.lt
     have kI14 := kI13.below hb14 kI13.lt
     have kY14 := kY13.below hb14 kY13.lt
     clear kV13 kC13 kX13 kR13 kI13 kY13
     clear Y13 B13 hb14
     by_cases h12 : (12 : Int) <= (m2 : Int)
     ·skip
      obtain ⟨v_0, v_1⟩ := kV14.g2
      obtain ⟨x_0, x_1⟩ := kX14.g2
      obtain ⟨r_0, r_1, r_2, r_3⟩ := kR14.g4
      obtain ⟨xf0, xf1⟩ := kX14.f2
      have xl := kX14.lt
      obtain ⟨rf0, rf1, rf2, rf3⟩ := kR14.f4
      have rl := kR14.lt
      go_wp2
      refine foldBPL ?_
      intro wf hwf
      obtain ⟨hX, hR, hB⟩ : Blk wf (w.heap.size + 1 + 1) 26 #[.int .i64 nx, .slice (some ⟨b, of_, none⟩) xs.length c] /\ Blk wf (w.heap.size + 1 + 1 + 1) 54 #[.int .i64 7, .int .i64 0, .string ⟨#[]⟩, .string ⟨#[]⟩] /\ Below w.heap.size w wf := by
       rw [hwf]
       first
        | exact two_putL _ _ _ _ _ _ kX14 kR14 (by omega) B14 (by omega) (by omega)
        | exact two_putL _ _ _ _ _ _ kX14.drew kR14.drew (by omega) B14.drew (by omega) (by omega)
      clear hwf x_0 x_1 r_0 r_1 r_2 r_3
      obtain ⟨x_0, x_1⟩ := hX.g2
      obtain ⟨r_0, r_1, r_2, r_3⟩ := hR.g4
      refine bodyPost_ret (v := .tuple #[.agg #[.int .i64 nx, .slice (some ⟨b, of_, none⟩) xs.length c], .agg #[.int .i64 7, .int .i64 0, .string ⟨#[]⟩, .string ⟨#[]⟩]]) (by simp [results, Tryz.results169, go_sem, x_0, x_1, r_0, r_1, r_2, r_3]) rfl ⟨⟨_, _, _, rfl, ⟨_, _, _, _, rfl⟩, Hqm.out, .inl ⟨rfl, rfl⟩⟩, hB⟩
     go_upto_region 26 with fail
     have hpj := HJ.out.1
     have hij := HJ.out.2.1
     have HyAt := Lib.hid (fun W hW => (Y14.out.atK (nx := nx) (by omega) (a := xid) (k := j) (by rw [hij]; exact hpj) W hW))
     have hle2 : w.heap.size + 4 <= w14.heap.size /\ py < w14.heap.size := ⟨by have := kR14.lt; omega, kY14.lt⟩
     clear hpj hij
     have wln : IntKind.i64.wrap (xln + 1) = xln + 1 := by have h1 := Hq.out.ln _ (List.getElem_mem hj); rw [HX.out] at h1; simp only at h1; rw [IntKind.wrap_i64]; omega
     obtain ⟨g1, hg1⟩ : ∃ g1, g1 = w14.heap.size := ⟨_, rfl⟩
     refine wp_region_held_drew (S := fun w' => w'.cell? ⟨py, 0, none⟩ = some (.int .i64 nx) /\ w'.cell? ⟨py, 1, none⟩ = some (.slice (some ⟨gy, 0, none⟩) xs.length cy) /\ w'.cell? ⟨aI, 0, none⟩ = some (.int .i64 xid) /\ w'.cell? ⟨aI, 2, none⟩ = some (.int .i64 xln)) (by kernel_rfl) (by exact ⟨kY14.get 0 rfl, kY14.get 1 rfl, kI14.get 0 rfl, kI14.get 2 rfl⟩) (fun hHeld => ?_)
     clear hHeld
     refine foldH ?_
     intro r hr0
     have bw : w14.grownBy r (some g1) := by rw [hr0]; exact gb_below (grown_refl _ _) (bel0 w14).drew
     have kY : Blk r py 26 #[.int .i64 nx, .slice (some ⟨gy, 0, none⟩) xs.length cy] := by rw [hr0]; exact kY14.drew
     have kI : Blk r aI 36 #[.int .i64 xid, .int .i64 xkd, .int .i64 xln, .string xs_, .slice Ax mx cx] := by rw [hr0]; exact kI14.drew
     have kC : Blk r (w.heap.size + 1) 95 #[.int .i64 5, .int .i64 a, .string s, .int .i64 tg, .string nm, .string dt] := by rw [hr0]; exact kC14.drew
     have kX : Blk r (w.heap.size + 1 + 1) 26 #[.int .i64 0, .slice none 0 0] := by rw [hr0]; exact kX14.drew
     have kR : Blk r (w.heap.size + 1 + 1 + 1) 54 #[.int .i64 0, .int .i64 0, .string ⟨#[]⟩, .string ⟨#[]⟩] := by rw [hr0]; exact kR14.drew
     clear hr0
     apply mem4_w (P := fun  q => w14.grownBy q (some g1) /\ Blk q (w.heap.size + 1) 95 #[.int .i64 5, .int .i64 a, .string s, .int .i64 tg, .string nm, .string dt] /\ Blk q aI 36 #[.int .i64 xid, .int .i64 xkd, .int .i64 xln, .string xs_, .slice Ax mx cx] /\ Blk q (w.heap.size + 1 + 1 + 1) 54 #[.int .i64 0, .int .i64 0, .string ⟨#[]⟩, .string ⟨#[]⟩] /\ Blk q (w.heap.size + 1 + 1) 26 #[.int .i64 0, .slice none 0 0] /\ Blk q py 26 #[.int .i64 nx, .slice (some ⟨gy, 0, none⟩) xs.length cy])
     case use =>
      intro key_ol_5
      refine tkW_ 0 ?_ (hS := by exact ⟨kY.get 0 rfl, kY.get 1 rfl, kI.get 0 rfl, kI.get 2 rfl⟩)
      refine tkW_ 1 ?_ (hS := by exact ⟨kY.get 0 rfl, kY.get 1 rfl, kI.get 0 rfl, kI.get 2 rfl⟩)
      refine tkW_ 2 ?_ (hS := by exact ⟨kY.get 0 rfl, kY.get 1 rfl, kI.get 0 rfl, kI.get 2 rfl⟩)
      refine tkW_ 3 ?_ (hS := by exact ⟨kY.get 0 rfl, kY.get 1 rfl, kI.get 0 rfl, kI.get 2 rfl⟩)
      refine tkW_ 4 ?_ (hS := by exact ⟨kY.get 0 rfl, kY.get 1 rfl, kI.get 0 rfl, kI.get 2 rfl⟩)
      refine tkW_ 6 ?_ (hS := by exact ⟨kY.get 0 rfl, kY.get 1 rfl, kI.get 0 rfl, kI.get 2 rfl⟩)
      refine tkW_ 7 ?_ (hS := by exact ⟨kY.get 0 rfl, kY.get 1 rfl, kI.get 0 rfl, kI.get 2 rfl⟩)
      refine tkW_ 8 ?_ (hS := by exact ⟨kY.get 0 rfl, kY.get 1 rfl, kI.get 0 rfl, kI.get 2 rfl⟩)
      refine rd1_ 5 (fun K hK => ?br15009)
      case br15009 =>
       go_simp
       go_at_call 54
       refine (HyAt.out _ (belG (bel0 w14) bw (by omega))).mono ?_
       rintro e q ⟨rfl, hb⟩
       have bw2 := gb_below bw hb
       have kY2 := kY.below hb kY.lt
       have kI2 := kI.below hb kI.lt
       have kC2 := kC.below hb kC.lt
       have kX2 := kX.below hb kX.lt
       have kR2 := kR.below hb kR.lt
       refine hK.out _ _ (by exact ⟨kY2.get 0 rfl, kY2.get 1 rfl, kI2.get 0 rfl, kI2.get 2 rfl⟩) (fun _ => ?_)
       clear hK K
       try simp only [Act.put, pT_, pZ_, pS_]
       refine tkW_ 9 ?_ (hS := by exact ⟨kY2.get 0 rfl, kY2.get 1 rfl, kI2.get 0 rfl, kI2.get 2 rfl⟩)
       refine tkW_ 10 ?_ (hS := by exact ⟨kY2.get 0 rfl, kY2.get 1 rfl, kI2.get 0 rfl, kI2.get 2 rfl⟩)
       exact key_ol_5  q ⟨bw2, kC2, kI2, kR2, kX2, kY2⟩
     case key =>
      rintro  r ⟨bw, kC, kI, kR, kX, kY⟩
      try dsimp only
      refine rd1_ 11 (fun K hK => ?br15012)
      case br15012 =>
       have Br := belG (bel0 w14) bw (show w14.heap.size <= g1 by omega)
       have Yr := Y14.out.below Br
       obtain ⟨_, _, _, _, _, y2, _, _⟩ := Yr.at_ hj
       have yf := Yr.frozen (j * 5 + 2)
       have YS := Yr.putL hj (xln + 1)
       have hgl := Yr.hi
       have B15 := belC (belN B14 Br) gy (j * 5 + 2) (by omega) (.int .i64 (xln + 1))
       have kY15 := kY.far (p := ⟨gy, j * 5 + 2, none⟩) (show py ≠ gy by omega) (.int .i64 (xln + 1))
       have kI15 := kI.far (p := ⟨gy, j * 5 + 2, none⟩) (show aI ≠ gy by omega) (.int .i64 (xln + 1))
       have kC15 := kC.far (p := ⟨gy, j * 5 + 2, none⟩) (show w.heap.size + 1 ≠ gy by omega) (.int .i64 (xln + 1))
       have kX15 := kX.far (p := ⟨gy, j * 5 + 2, none⟩) (show w.heap.size + 1 + 1 ≠ gy by omega) (.int .i64 (xln + 1))
       have kR15 := kR.far (p := ⟨gy, j * 5 + 2, none⟩) (show w.heap.size + 1 + 1 + 1 ≠ gy by omega) (.int .i64 (xln + 1))
       obtain ⟨w15, hw15⟩ : ∃ W, r.setCell ⟨gy, j * 5 + 2, none⟩ (.int .i64 (xln + 1)) = W := ⟨_, rfl⟩
       rw [hw15] at YS B15 kY15 kI15 kC15 kX15 kR15
       go_simp
       refine hK.out _ _ (by first | exact ⟨kY15.get 0 rfl, kY15.get 1 rfl, kI15.get 0 rfl, kI15.get 2 rfl⟩ | (rw [hw15]; exact ⟨kY15.get 0 rfl, kY15.get 1 rfl, kI15.get 0 rfl, kI15.get 2 rfl⟩)) (fun _ => ?_)
       clear hK K
       try simp only [Act.put, pT_, pZ_, pS_]
       try rw [hw15]
       clear hw15 y2 yf bw kY kI kC kX kR Y14 B14 kY14 kI14 kC14 kX14 kR14 kV14 Yr Br
       refine wpAnyH_done (by kernel_rfl) ?_ _
       have hk2' : k2 < (ptL xs j (xln + 1)).length := by rw [putL_len]; exact hk2
       have e2 : (ptL xs j (xln + 1))[k2].es = xs[k2].es := by
        by_cases h : k2 = j
        ·subst h; rw [putL_same hk2 hk2']
        ·rw [putL_ne hj h hk2']
       have hpt2 : plc (ptL xs j (xln + 1)) tg = (k2 : Int) := by rw [putL_plc hj]; exact Hpt.out
       have Y15 := Lib.hid YS
       have Hen2 := Lib.hid (fun W hW => l6Ents_own w9.heap.size gy cy nx (ptL xs j (xln + 1)) us (by rw [putL_len]; omega) tg k2 hk2' hpt2 W hW)
       simp only [e2, putL_len, Hm2.out] at Hen2
       have HdO := Lib.hid (Hq.out.dir _ (List.getElem_mem hk2))
       have hlo15 : w9.heap.size <= w15.heap.size := by have := YS.hi; omega
       have Hpt2 := Lib.hid hpt2
       have He2 := Lib.hid e2
       clear YS hpt2 e2
       obtain ⟨y_0, y_1⟩ := kY15.g2
       have c_3 := kC15.get 3 rfl
       have c_4 := kC15.get 4 rfl
       have i_0 := kI15.get 0 rfl
       go_upto_region 27 with fail
       go_region_held3 (fun w' => w'.cell? ⟨py, 0, none⟩ = some (.int .i64 nx) /\ w'.cell? ⟨py, 1, none⟩ = some (.slice (some ⟨gy, 0, none⟩) xs.length cy) /\ w'.cell? ⟨w.heap.size + 1, 3, none⟩ = some (.int .i64 tg) /\ w'.cell? ⟨w.heap.size + 1, 4, none⟩ = some (.string nm) /\ w'.cell? ⟨aI, 0, none⟩ = some (.int .i64 xid))
        (first | go_keep | (refine ⟨keep1 hb16 ?_, keep1 hb16 ?_, keep1 hb16 ?_, keep1 hb16 ?_, keep1 hb16 ?_⟩ <;> go_keep) | (refine ⟨keep1 hb17 ?_, keep1 hb17 ?_, keep1 hb17 ?_, keep1 hb17 ?_, keep1 hb17 ?_⟩ <;> go_keep))
        (first
         | (go_at_call 220; refine (Hen2.out _ (Y15.out.below (bel0 w15).drew)).mono ?_; rintro e w16 ⟨vk, _, rfl, hok, hb16⟩)
         | (go_at_call 180; refine (l5Add_any w9.heap.size m2 vk _ HdO.out Hnm2.out nm (by omega) xid _ (Nat.le_trans hlo15 hb16.size) hok).mono ?_; rintro e w17 ⟨⟨L, b', vL, nL, hP, hnL, rfl, hoL⟩, hb17⟩))
       clear y_0 y_1 c_3 c_4 i_0
       subst hnL
       obtain ⟨Ae, ce, rfl, _⟩ := own_vals hoL
       have b17 : Below w15.heap.size w15 w17 := ((bel0 w15).drew.trans hb16).trans (hb17.mono hb16.size)
       have HoL := Lib.hid hoL
       have Y17 := Lib.hid (Y15.out.below b17)
       have B17 := belN B15 b17
       have kY17 := kY15.below b17 kY15.lt
       have kI17 := kI15.below b17 kI15.lt
       have kC17 := kC15.below b17 kC15.lt
       have kX17 := kX15.below b17 kX15.lt
       have kR17 := kR15.below b17 kR15.lt
       have HP := Lib.hid hP
       have hgD := Y17.out.hi
       clear hP hoL hok hb16 hb17 b17 Y15 B15 kY15 kC15 kI15 kX15 kR15
       obtain ⟨y_0, y_1⟩ := kY17.g2
       have c_3 := kC17.get 3 rfl
       go_wp2_with fail
       refine (l6With_n (n := xs.length) w9.heap.size gy cy nx (ptL xs j (xln + 1)) us putL_len tg k2 hk2' (Value.slice Ae L.length ce) L _ Y17.out Hpt2.out (by rw [putL_len]; omega) HoL.out).mono ?_
       rintro e w18 ⟨rfl, hZ, hg⟩
       clear y_0 y_1 c_3
       have B18 := belG B17 hg (by omega)
       have kY18 := blk_gV kY17 hg (show py ≠ gy by omega)
       have kI18 := blk_gV kI17 hg (show aI ≠ gy by omega)
       have kC18 := blk_gV kC17 hg (show w.heap.size + 1 ≠ gy by omega)
       have kX18 := blk_gV kX17 hg (show w.heap.size + 1 + 1 ≠ gy by omega)
       have kR18 := blk_gV kR17 hg (show w.heap.size + 1 + 1 + 1 ≠ gy by omega)
       clear hg HoL Y17 B17 kY17 kC17 kI17 kX17 kR17
       obtain ⟨x_0, x_1⟩ := kX18.g2
       obtain ⟨xf0, xf1⟩ := kX18.f2
       obtain ⟨r_0, r_1, r_2, r_3⟩ := kR18.g4
       obtain ⟨rf0, rf1, rf2, rf3⟩ := kR18.f4
       have xl := kX18.lt
       have rl := kR18.lt
       go_wp2
       refine foldBPL ?_
       intro wf hwf
       have YF : YR wf w9.heap.size gy cy (ptE (ptL xs j (xln + 1)) k2 L) (us.set k2 (Value.slice Ae L.length ce)) := by
        rw [hwf]
        exact ((hZ.farV kX18 0 _).farV (kX18.put 0 (.int .i64 nx) #[.int .i64 nx, .slice none 0 0] rfl) 1 _).far4 ((kR18.far (p := ⟨w.heap.size + 1 + 1, 0, none⟩) (show w.heap.size + 1 + 1 + 1 ≠ w.heap.size + 1 + 1 by omega) _).far (p := ⟨w.heap.size + 1 + 1, 1, none⟩) (show w.heap.size + 1 + 1 + 1 ≠ w.heap.size + 1 + 1 by omega) _) _ _ _ _
       obtain ⟨hX, hR, hB⟩ : Blk wf (w.heap.size + 1 + 1) 26 #[.int .i64 nx, .slice (some ⟨gy, 0, none⟩) xs.length cy] /\ Blk wf (w.heap.size + 1 + 1 + 1) 54 #[.int .i64 0, .int .i64 0, .string ⟨#[]⟩, .string ⟨#[]⟩] /\ Below w.heap.size w wf := by
        rw [hwf]
        exact two_putL _ _ _ _ _ _ kX18 kR18 (by omega) B18 (by omega) (by omega)
       clear hwf x_0 x_1 r_0 r_1 r_2 r_3
       obtain ⟨x_0, x_1⟩ := hX.g2
       obtain ⟨r_0, r_1, r_2, r_3⟩ := hR.g4
       have hun := QV.link Hq.out (m := j) hj (by show xs[j].id ≠ 1; rw [HX.out]; show xid ≠ 1; rw [HJ.out.2.1]; exact HJ.out.2.2) hk2 Hd2.out nm
       simp only [HX.out, HP.out] at hun
       refine bodyPost_ret (v := .tuple #[.agg #[.int .i64 nx, .slice (some ⟨gy, 0, none⟩) xs.length cy], .agg #[.int .i64 0, .int .i64 0, .string ⟨#[]⟩, .string ⟨#[]⟩]]) (by simp [results, Tryz.results169, go_sem, x_0, x_1, r_0, r_1, r_2, r_3]) rfl ⟨⟨_, ⟨nx, ptE (ptL xs j (xln + 1)) k2 L⟩, _, rfl, ⟨_, _, _, _, rfl⟩, hun, .inr ⟨gy, cy, _, by rw [putE_len, putL_len], YF.more (by omega)⟩⟩, hB⟩
   ·skip
    obtain ⟨hnz, k2, hk2, hp2, hd2⟩ := H2.out (.inr rfl)
    try simp only at hk2 hp2 hd2
    have hnm2 := Hq.out.names hk2
    have Hent := Lib.hid (fun W hW => l6Ents_rd (.agg #[.int .i64 nx, .slice (some ⟨b, of_, none⟩) xs.length c]) ⟨nx, xs⟩ (show xs.length <= 10000000 by omega) tg k2 hk2 hp2 W hW)
    have Hpt := Lib.hid hp2
    have Hd2 := Lib.hid hd2
    try simp only at Hent hnm2
    have Hnm2 := Lib.hid hnm2.2
    have hm212 := hnm2.1
    obtain ⟨m2, hm2⟩ : ∃ m, xs[k2].es.length = m := ⟨_, rfl⟩
    have Hm2 := Lib.hid hm2
    simp only [hm2] at Hent hm212
    clear hm2 hp2 hd2 hnm2
    have Hren := Lib.hid (fun W hW => l6Ren_any (.agg #[.int .i64 nx, .slice (some ⟨b, of_, none⟩) xs.length c]) ⟨nx, xs⟩ K Hq.out hKl 6 a s tg nm dt hs hnz k hk Hp.out k2 hk2 Hpt.out Hd2.out i hi Hf.out j hj xid xkd xln xs_ Ax mx cx (by show xs[k].es[i].d = xid; rw [HE.out]; exact HJ.out.2.1.symm) (by show xs[j].id = xid; rw [HX.out]) (by show xs[j].kd = xkd; rw [HX.out]) W hW)
    obtain ⟨v_0, v_1⟩ := kV11.g2
    have c_1 := kC11.get 1 rfl
    have c_2 := kC11.get 2 rfl
    have c_3 := kC11.get 3 rfl
    have c_4 := kC11.get 4 rfl
    have c_5 := kC11.get 5 rfl
    obtain ⟨i_0, i_1, i_2, i_3, i_4⟩ := kI11.g5
    go_wp2_with fail
    clear v_0 v_1 c_0 c_1 c_2 c_3 c_4 c_5 i_0 i_1 i_2 i_3 i_4
    refine (Hren.out w11 (hvv.out.next B11)).mono ?_
    rintro e wz ⟨⟨v', V', r, rfl, ⟨r0, r1, r2, r3, rfl⟩, hq', hd'⟩, hbz⟩
    have Bz := belN B11 hbz
    have szz : w.heap.size + 4 <= w11.heap.size := by have := kR11.lt; omega
    have kXz := kX11.below hbz kX11.lt
    have kRz := kR11.below hbz kR11.lt
    rcases hd' with ⟨rfl, rfl⟩ | ⟨g', c', us', rfl, hY'⟩
    ·skip
     obtain ⟨x_0, x_1⟩ := kXz.g2
     obtain ⟨xf0, xf1⟩ := kXz.f2
     obtain ⟨r_0, r_1, r_2, r_3⟩ := kRz.g4
     obtain ⟨rf0, rf1, rf2, rf3⟩ := kRz.f4
     have xl := kXz.lt
     have rl := kRz.lt
     go_wp2
     refine foldBPL ?_
     intro wf hwf
     obtain ⟨hX, hR, hB⟩ : Blk wf (w.heap.size + 1 + 1) 26 #[.int .i64 nx, .slice (some ⟨b, of_, none⟩) xs.length c] /\ Blk wf (w.heap.size + 1 + 1 + 1) 54 #[.int .i64 r0, .int .i64 r1, .string r2, .string r3] /\ Below w.heap.size w wf := by
      rw [hwf]
      first
       | exact two_putL _ _ _ _ _ _ kXz kRz (by omega) Bz (by omega) (by omega)
       | exact two_putL _ _ _ _ _ _ kXz.drew kRz.drew (by omega) Bz.drew (by omega) (by omega)
     clear hwf x_0 x_1 r_0 r_1 r_2 r_3
     obtain ⟨x_0, x_1⟩ := hX.g2
     obtain ⟨r_0, r_1, r_2, r_3⟩ := hR.g4
     refine bodyPost_ret (v := .tuple #[.agg #[.int .i64 nx, .slice (some ⟨b, of_, none⟩) xs.length c], .agg #[.int .i64 r0, .int .i64 r1, .string r2, .string r3]]) (by simp [results, Tryz.results169, go_sem, x_0, x_1, r_0, r_1, r_2, r_3]) rfl ⟨⟨_, _, _, rfl, ⟨_, _, _, _, rfl⟩, hq', .inl ⟨rfl, rfl⟩⟩, hB⟩
    ·skip
     obtain ⟨nx', xs'⟩ := V'
     simp only at hq' hY' ⊢
     obtain ⟨x_0, x_1⟩ := kXz.g2
     obtain ⟨xf0, xf1⟩ := kXz.f2
     obtain ⟨r_0, r_1, r_2, r_3⟩ := kRz.g4
     obtain ⟨rf0, rf1, rf2, rf3⟩ := kRz.f4
     have xl := kXz.lt
     have rl := kRz.lt
     go_wp2
     refine foldBPL ?_
     intro wf hwf
     have YF : YR wf w11.heap.size g' c' xs' us' := by
      rw [hwf]
      exact ((hY'.farV kXz 0 _).farV (kXz.put 0 (.int .i64 nx') #[.int .i64 nx', .slice none 0 0] rfl) 1 _).far4 ((kRz.far (p := ⟨w.heap.size + 1 + 1, 0, none⟩) (show w.heap.size + 1 + 1 + 1 ≠ w.heap.size + 1 + 1 by omega) _).far (p := ⟨w.heap.size + 1 + 1, 1, none⟩) (show w.heap.size + 1 + 1 + 1 ≠ w.heap.size + 1 + 1 by omega) _) _ _ _ _
     obtain ⟨hX, hR, hB⟩ : Blk wf (w.heap.size + 1 + 1) 26 #[.int .i64 nx', .slice (some ⟨g', 0, none⟩) xs'.length c'] /\ Blk wf (w.heap.size + 1 + 1 + 1) 54 #[.int .i64 r0, .int .i64 r1, .string r2, .string r3] /\ Below w.heap.size w wf := by
      rw [hwf]
      first
       | exact two_putL _ _ _ _ _ _ kXz kRz (by omega) Bz (by omega) (by omega)
       | exact two_putL _ _ _ _ _ _ kXz.drew kRz.drew (by omega) Bz.drew (by omega) (by omega)
     clear hwf x_0 x_1 r_0 r_1 r_2 r_3
     obtain ⟨x_0, x_1⟩ := hX.g2
     obtain ⟨r_0, r_1, r_2, r_3⟩ := hR.g4
     refine bodyPost_ret (v := .tuple #[.agg #[.int .i64 nx', .slice (some ⟨g', 0, none⟩) xs'.length c'], .agg #[.int .i64 r0, .int .i64 r1, .string r2, .string r3]]) (by simp [results, Tryz.results169, go_sem, x_0, x_1, r_0, r_1, r_2, r_3]) rfl ⟨⟨_, ⟨nx', xs'⟩, _, rfl, ⟨_, _, _, _, rfl⟩, hq', .inr ⟨g', c', us', rfl, YF.more (by omega)⟩⟩, hB⟩
   ·skip
    by_cases hkd2 : xkd = 2
    ·have t9 : (xkd == 2) = true := by rw [hkd2]; rfl
     clear hkd2
     go_upto_region 33 with fail
     clear c_0 t9
     obtain ⟨v_0, v_1⟩ := kV11.g2
     obtain ⟨x_0, x_1⟩ := kX11.g2
     obtain ⟨r_0, r_1, r_2, r_3⟩ := kR11.g4
     obtain ⟨xf0, xf1⟩ := kX11.f2
     have xl := kX11.lt
     obtain ⟨rf0, rf1, rf2, rf3⟩ := kR11.f4
     have rl := kR11.lt
     go_wp2
     refine foldBPL ?_
     intro wf hwf
     obtain ⟨hX, hR, hB⟩ : Blk wf (w.heap.size + 1 + 1) 26 #[.int .i64 nx, .slice (some ⟨b, of_, none⟩) xs.length c] /\ Blk wf (w.heap.size + 1 + 1 + 1) 54 #[.int .i64 5, .int .i64 0, .string ⟨#[]⟩, .string ⟨#[]⟩] /\ Below w.heap.size w wf := by
      rw [hwf]
      first
       | exact two_putL _ _ _ _ _ _ kX11 kR11 (by omega) B11 (by omega) (by omega)
       | exact two_putL _ _ _ _ _ _ kX11.drew kR11.drew (by omega) B11.drew (by omega) (by omega)
     clear hwf x_0 x_1 r_0 r_1 r_2 r_3
     obtain ⟨x_0, x_1⟩ := hX.g2
     obtain ⟨r_0, r_1, r_2, r_3⟩ := hR.g4
     refine bodyPost_ret (v := .tuple #[.agg #[.int .i64 nx, .slice (some ⟨b, of_, none⟩) xs.length c], .agg #[.int .i64 5, .int .i64 0, .string ⟨#[]⟩, .string ⟨#[]⟩]]) (by simp [results, Tryz.results169, go_sem, x_0, x_1, r_0, r_1, r_2, r_3]) rfl ⟨⟨_, _, _, rfl, ⟨_, _, _, _, rfl⟩, Hqm.out, .inl ⟨rfl, rfl⟩⟩, hB⟩
    ·have t9 : (xkd == 2) = false := by simpa using hkd2
     clear hkd2
     go_upto_region 34 with fail
     clear c_0 t9
     obtain ⟨g1, hg1⟩ : ∃ g1, g1 = w11.heap.size := ⟨_, rfl⟩
     have hpj := HJ.out.1
     have hij := HJ.out.2.1
     have HyAt := Lib.hid (fun W hW => (Y11.out.atK (nx := nx) (by omega) (a := xid) (k := j) (by rw [hij]; exact hpj) W hW))
     have hle2 : w.heap.size + 4 <= w11.heap.size /\ py < w11.heap.size := ⟨by have := kR11.lt; omega, kY11.lt⟩
     clear hpj hij
     refine wp_region_held_drew (S := fun w' => w'.cell? ⟨py, 0, none⟩ = some (.int .i64 nx) /\ w'.cell? ⟨py, 1, none⟩ = some (.slice (some ⟨gy, 0, none⟩) xs.length cy) /\ w'.cell? ⟨aI, 0, none⟩ = some (.int .i64 xid) /\ w'.cell? ⟨w.heap.size + 1, 5, none⟩ = some (.string dt)) (by kernel_rfl) (by exact ⟨kY11.get 0 rfl, kY11.get 1 rfl, kI11.get 0 rfl, kC11.get 5 rfl⟩) (fun hHeld => ?_)
     clear hHeld
     refine foldH ?_
     intro r hr0
     have bw : w11.grownBy r (some g1) := by rw [hr0]; exact gb_below (grown_refl _ _) (bel0 w11).drew
     have kY : Blk r py 26 #[.int .i64 nx, .slice (some ⟨gy, 0, none⟩) xs.length cy] := by rw [hr0]; exact kY11.drew
     have kI : Blk r aI 36 #[.int .i64 xid, .int .i64 xkd, .int .i64 xln, .string xs_, .slice Ax mx cx] := by rw [hr0]; exact kI11.drew
     have kC : Blk r (w.heap.size + 1) 95 #[.int .i64 7, .int .i64 a, .string s, .int .i64 tg, .string nm, .string dt] := by rw [hr0]; exact kC11.drew
     have kX : Blk r (w.heap.size + 1 + 1) 26 #[.int .i64 0, .slice none 0 0] := by rw [hr0]; exact kX11.drew
     have kR : Blk r (w.heap.size + 1 + 1 + 1) 54 #[.int .i64 0, .int .i64 0, .string ⟨#[]⟩, .string ⟨#[]⟩] := by rw [hr0]; exact kR11.drew
     clear hr0
     apply mem4_w (P := fun  q => w11.grownBy q (some g1) /\ Blk q (w.heap.size + 1) 95 #[.int .i64 7, .int .i64 a, .string s, .int .i64 tg, .string nm, .string dt] /\ Blk q aI 36 #[.int .i64 xid, .int .i64 xkd, .int .i64 xln, .string xs_, .slice Ax mx cx] /\ Blk q (w.heap.size + 1 + 1 + 1) 54 #[.int .i64 0, .int .i64 0, .string ⟨#[]⟩, .string ⟨#[]⟩] /\ Blk q (w.heap.size + 1 + 1) 26 #[.int .i64 0, .slice none 0 0] /\ Blk q py 26 #[.int .i64 nx, .slice (some ⟨gy, 0, none⟩) xs.length cy])
     case use =>
      intro key_ow_5
      refine tkW_ 0 ?_ (hS := by exact ⟨kY.get 0 rfl, kY.get 1 rfl, kI.get 0 rfl, kC.get 5 rfl⟩)
      refine tkW_ 1 ?_ (hS := by exact ⟨kY.get 0 rfl, kY.get 1 rfl, kI.get 0 rfl, kC.get 5 rfl⟩)
      refine tkW_ 2 ?_ (hS := by exact ⟨kY.get 0 rfl, kY.get 1 rfl, kI.get 0 rfl, kC.get 5 rfl⟩)
      refine tkW_ 3 ?_ (hS := by exact ⟨kY.get 0 rfl, kY.get 1 rfl, kI.get 0 rfl, kC.get 5 rfl⟩)
      refine tkW_ 4 ?_ (hS := by exact ⟨kY.get 0 rfl, kY.get 1 rfl, kI.get 0 rfl, kC.get 5 rfl⟩)
      refine tkW_ 6 ?_ (hS := by exact ⟨kY.get 0 rfl, kY.get 1 rfl, kI.get 0 rfl, kC.get 5 rfl⟩)
      refine tkW_ 7 ?_ (hS := by exact ⟨kY.get 0 rfl, kY.get 1 rfl, kI.get 0 rfl, kC.get 5 rfl⟩)
      refine rd1_ 5 (fun K hK => ?br7008)
      case br7008 =>
       go_simp
       go_at_call 54
       refine (HyAt.out _ (belG (bel0 w11) bw (by omega))).mono ?_
       rintro e q ⟨rfl, hb⟩
       have bw2 := gb_below bw hb
       have kY2 := kY.below hb kY.lt
       have kI2 := kI.below hb kI.lt
       have kC2 := kC.below hb kC.lt
       have kX2 := kX.below hb kX.lt
       have kR2 := kR.below hb kR.lt
       refine hK.out _ _ (by exact ⟨kY2.get 0 rfl, kY2.get 1 rfl, kI2.get 0 rfl, kC2.get 5 rfl⟩) (fun _ => ?_)
       clear hK K
       try simp only [Act.put, pT_, pZ_, pS_]
       refine tkW_ 8 ?_ (hS := by exact ⟨kY2.get 0 rfl, kY2.get 1 rfl, kI2.get 0 rfl, kC2.get 5 rfl⟩)
       refine tkW_ 9 ?_ (hS := by exact ⟨kY2.get 0 rfl, kY2.get 1 rfl, kI2.get 0 rfl, kC2.get 5 rfl⟩)
       exact key_ow_5  q ⟨bw2, kC2, kI2, kR2, kX2, kY2⟩
     case key =>
      rintro  r ⟨bw, kC, kI, kR, kX, kY⟩
      try dsimp only
      refine rd1_ 10 (fun K hK => ?br7011)
      case br7011 =>
       have Br := belG (bel0 w11) bw (show w11.heap.size <= g1 by omega)
       have Yr := Y11.out.below Br
       obtain ⟨_, _, _, _, _, _, y3, _⟩ := Yr.at_ hj
       have yf := Yr.frozen (j * 5 + 3)
       have YS := Yr.putS hj dt
       have hgl := Yr.hi
       have B12 := belC (belN B11 Br) gy (j * 5 + 3) (by omega) (.string dt)
       have kY12 := kY.far (p := ⟨gy, j * 5 + 3, none⟩) (show py ≠ gy by omega) (.string dt)
       have kI12 := kI.far (p := ⟨gy, j * 5 + 3, none⟩) (show aI ≠ gy by omega) (.string dt)
       have kC12 := kC.far (p := ⟨gy, j * 5 + 3, none⟩) (show w.heap.size + 1 ≠ gy by omega) (.string dt)
       have kX12 := kX.far (p := ⟨gy, j * 5 + 3, none⟩) (show w.heap.size + 1 + 1 ≠ gy by omega) (.string dt)
       have kR12 := kR.far (p := ⟨gy, j * 5 + 3, none⟩) (show w.heap.size + 1 + 1 + 1 ≠ gy by omega) (.string dt)
       obtain ⟨w12, hw12⟩ : ∃ W, r.setCell ⟨gy, j * 5 + 3, none⟩ (.string dt) = W := ⟨_, rfl⟩
       rw [hw12] at YS B12 kY12 kI12 kC12 kX12 kR12
       go_simp
       refine hK.out _ _ (by first | exact ⟨kY12.get 0 rfl, kY12.get 1 rfl, kI12.get 0 rfl, kC12.get 5 rfl⟩ | (rw [hw12]; exact ⟨kY12.get 0 rfl, kY12.get 1 rfl, kI12.get 0 rfl, kC12.get 5 rfl⟩)) (fun _ => ?_)
       clear hK K
       try simp only [Act.put, pT_, pZ_, pS_]
       try rw [hw12]
       clear hw12 y3 yf bw kY kI kC kX kR
       refine wpAnyH_done (by kernel_rfl) ?_ _
       obtain ⟨y_0, y_1⟩ := kY12.g2
       obtain ⟨x_0, x_1⟩ := kX12.g2
       obtain ⟨xf0, xf1⟩ := kX12.f2
       obtain ⟨r_0, r_1, r_2, r_3⟩ := kR12.g4
       obtain ⟨rf0, rf1, rf2, rf3⟩ := kR12.f4
       have xl := kX12.lt
       have rl := kR12.lt
       go_wp2
       refine foldBPL ?_
       intro wf hwf
       have YF : YR wf w9.heap.size gy cy (ptS xs j dt) us := by
        rw [hwf]
        exact ((YS.farV kX12 0 _).farV (kX12.put 0 (.int .i64 nx) #[.int .i64 nx, .slice none 0 0] rfl) 1 _).far4 ((kR12.far (p := ⟨w.heap.size + 1 + 1, 0, none⟩) (show w.heap.size + 1 + 1 + 1 ≠ w.heap.size + 1 + 1 by omega) _).far (p := ⟨w.heap.size + 1 + 1, 1, none⟩) (show w.heap.size + 1 + 1 + 1 ≠ w.heap.size + 1 + 1 by omega) _) _ _ _ _
       obtain ⟨hX, hR, hB⟩ : Blk wf (w.heap.size + 1 + 1) 26 #[.int .i64 nx, .slice (some ⟨gy, 0, none⟩) xs.length cy] /\ Blk wf (w.heap.size + 1 + 1 + 1) 54 #[.int .i64 0, .int .i64 0, .string ⟨#[]⟩, .string ⟨#[]⟩] /\ Below w.heap.size w wf := by
        rw [hwf]
        exact two_putL _ _ _ _ _ _ kX12 kR12 (by omega) B12 (by omega) (by omega)
       clear hwf x_0 x_1 r_0 r_1 r_2 r_3
       obtain ⟨x_0, x_1⟩ := hX.g2
       obtain ⟨r_0, r_1, r_2, r_3⟩ := hR.g4
       refine bodyPost_ret (v := .tuple #[.agg #[.int .i64 nx, .slice (some ⟨gy, 0, none⟩) xs.length cy], .agg #[.int .i64 0, .int .i64 0, .string ⟨#[]⟩, .string ⟨#[]⟩]]) (by simp [results, Tryz.results169, go_sem, x_0, x_1, r_0, r_1, r_2, r_3]) rfl ⟨⟨_, ⟨nx, ptS xs j dt⟩, _, rfl, ⟨_, _, _, _, rfl⟩, QG.putS Hqm.out hj hdt, .inr ⟨gy, cy, us, by rw [putS_len], YF.more (by omega)⟩⟩, hB⟩
   ·skip
    have i_0 := kI11.get 0 rfl
    have i_3 := kI11.get 3 rfl
    have e_2 := kE11.get 2 rfl
    obtain ⟨v_0, v_1⟩ := kV11.g2
    go_upto_region 36 with fail
    clear c_0
    obtain ⟨xf0, xf1⟩ := kX11.f2
    have xl := kX11.lt
    obtain ⟨rf0, rf1, rf2, rf3⟩ := kR11.f4
    have rl := kR11.lt
    obtain ⟨x_0, x_1⟩ := kX11.g2
    obtain ⟨r_0, r_1, r_2, r_3⟩ := kR11.g4
    go_region
    go_wp2
    refine foldBPL ?_
    intro wf hwf
    obtain ⟨hX, hR, hB⟩ : Blk wf (w.heap.size + 1 + 1) 26 #[.int .i64 nx, .slice (some ⟨b, of_, none⟩) xs.length c] /\ Blk wf (w.heap.size + 1 + 1 + 1) 54 #[.int .i64 0, .int .i64 xid, .string en, .string xs_] /\ Below w.heap.size w wf := by
     rw [hwf]
     have h := two_putL (.int .i64 nx) (.slice (some ⟨b, of_, none⟩) xs.length c) (.int .i64 0) (.int .i64 xid) (.string en) (.string xs_) kX11 kR11 (by omega) B11 (by omega) (by omega)
     exact ⟨h.1.drew, h.2.1.drew, h.2.2.drew⟩
    clear hwf x_0 x_1 r_0 r_1 r_2 r_3
    obtain ⟨x_0, x_1⟩ := hX.g2
    obtain ⟨r_0, r_1, r_2, r_3⟩ := hR.g4
    refine bodyPost_ret (v := .tuple #[.agg #[.int .i64 nx, .slice (some ⟨b, of_, none⟩) xs.length c], .agg #[.int .i64 0, .int .i64 xid, .string en, .string xs_]]) (by simp [results, Tryz.results169, go_sem, x_0, x_1, r_0, r_1, r_2, r_3]) rfl ⟨⟨_, _, _, rfl, ⟨_, _, _, _, rfl⟩, Hqm.out, .inl ⟨rfl, rfl⟩⟩, hB⟩

end Go.Proofs.YtjjniapamdleoaaGreatDoor
