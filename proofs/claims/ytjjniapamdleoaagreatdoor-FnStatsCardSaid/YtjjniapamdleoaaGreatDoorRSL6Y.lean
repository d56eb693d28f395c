/- A volume is drawn, spoiled now and then: l6Any. -/
import Derived.Test.YtjjniapamdleoaaGreatDoorRSL6U
import Derived.Test.YtjjniapamdleoaaGreatDoorRSDraw6
namespace Go.Proofs.YtjjniapamdleoaaGreatDoor
open Go Go.RowKit
set_option maxHeartbeats 8000000
set_option maxRecDepth 100000

theorem IC_set0 : ∀ {xs : List InoD} {vs : List Value} {k : Nat} (hk : k < xs.length) (_ : vs.length = xs.length) (a : Int), (IC xs vs).set (k * 5) (.int .i64 a) = IC (xs.set k ⟨a, xs[k].kd, xs[k].ln, xs[k].s, xs[k].es⟩) vs
 | x :: xs, v :: vs, 0, _, _, a => rfl
 | x :: xs, v :: vs, k + 1, hk, hl, a => by
  have ih := IC_set0 (xs := xs) (vs := vs) (k := k) (by simpa using hk) (by simpa using hl) a
  rw [show (k + 1) * 5 = k * 5 + 1 + 1 + 1 + 1 + 1 by omega]
  simp only [IC, List.set_cons_succ, List.getElem_cons_succ]
  rw [ih]
theorem IC_set1 : ∀ {xs : List InoD} {vs : List Value} {k : Nat} (hk : k < xs.length) (_ : vs.length = xs.length) (a : Int), (IC xs vs).set (k * 5 + 1) (.int .i64 a) = IC (xs.set k ⟨xs[k].id, a, xs[k].ln, xs[k].s, xs[k].es⟩) vs
 | x :: xs, v :: vs, 0, _, _, a => rfl
 | x :: xs, v :: vs, k + 1, hk, hl, a => by
  have ih := IC_set1 (xs := xs) (vs := vs) (k := k) (by simpa using hk) (by simpa using hl) a
  rw [show (k + 1) * 5 + 1 = k * 5 + 1 + 1 + 1 + 1 + 1 + 1 by omega]
  simp only [IC, List.set_cons_succ, List.getElem_cons_succ]
  rw [ih]
theorem YR.putX {w : World} {lo g c k : Nat} {xs : List InoD} {vs : List Value} (h : YR w lo g c xs vs) (hk : k < xs.length) (x' : InoD) (he : x'.es = xs[k].es) (j : Nat) (u : Value) (hI : (IC xs vs).set j u = IC (xs.set k x') vs) : YR (w.setCell ⟨g, j, none⟩ u) lo g c (xs.set k x') vs := by
 refine ⟨?_, OwnV.esame (xs := xs) ⟨h.2.1, fun i hi => ?_⟩ (es_set hk he)⟩
 ·have h2 := own_set h.1 j u
  rw [hI] at h2
  rw [List.length_set]
  exact h2
 ·obtain ⟨v, h1, h2⟩ := h.2.2 i hi
  exact ⟨v, h1, h2.kept (only_setCell (p := ⟨g, j, none⟩) (grown_refl w (some g)) (.inl rfl) _) (own_ne2 h2 h.1 (by decide))⟩
theorem SmV.set {nx nx' : Int} {xs : List InoD} (h : SmV ⟨nx, xs⟩) {k : Nat} (x' : InoD) (hx : x'.es.length <= 13 /\ (∀ e ∈ x'.es, e.s.size <= 25) /\ x'.s.size <= 25) : SmV ⟨nx', xs.set k x'⟩ := by
 refine ⟨by show (xs.set k x').length <= 17; rw [List.length_set]; exact h.1, fun x hm => ?_⟩
 rcases List.mem_or_eq_of_mem_set hm with h1 | rfl
 ·exact h.2 x h1
 ·exact hx
theorem SmV.nx {nx nx' : Int} {xs : List InoD} (h : SmV ⟨nx, xs⟩) : SmV ⟨nx', xs⟩ := h
/-- What a draw of a volume answers. -/
def AnyP (w0 : World) (g : Nat) (A : Option Addr) (n cp : Nat) (bs : List UInt8) (e : Ending) (w' : World) : Prop := ∃ v V, e = .returned v /\ SmV V /\ 0 < V.xs.length /\ YV w' w0.heap.size v V /\ Curs w' g A n cp bs /\ w0.grownBy w' (some g)
theorem mem4_iw {G P : (Int) -> (World) -> Prop} {R : Prop} (use : (∀ (x0 : Int) (x1 : World), P x0 x1 -> G x0 x1) -> R) (key : ∀ (x0 : Int) (x1 : World), P x0 x1 -> G x0 x1) : R := use key
theorem mem4_evw {G P : (List EntD) -> (Value) -> (World) -> Prop} {R : Prop} (use : (∀ (x0 : List EntD) (x1 : Value) (x2 : World), P x0 x1 x2 -> G x0 x1 x2) -> R) (key : ∀ (x0 : List EntD) (x1 : Value) (x2 : World), P x0 x1 x2 -> G x0 x1 x2) : R := use key
theorem l6Any_any (g : Nat) (A : Option Addr) (n cp : Nat) (bs : List UInt8) (hn : n <= 9223372036854775806) (most : Int) (hm : most <= 1000) (w : World) (h : Curs w g A n cp bs) :
  Calls Tryz.prog 44 #[.pointer (some ⟨g, 0, none⟩), .int .i64 most] w fun e w' => AnyP w g A n cp bs e w' := by
 have Hb := Lib.hid (fun m hm W hW => l1Below_any g A n cp bs hn m hm W hW)
 have Ho := Lib.hid (fun m hm W hW => l1Once_any g A n cp bs hn m hm W hW)
 have hgl := h.lt
 obtain ⟨w1, hW1⟩ : ∃ W, w.alloc (.cells #[.int .i64 0, .slice none 0 0] 26) = W := ⟨_, rfl⟩
 have a1 : Below w.heap.size w w1 := by rw [<- hW1]; exact belA (bel0 w) _
 have kR1 : Blk w1 w.heap.size 26 #[.int .i64 0, .slice none 0 0] := by rw [<- hW1]; exact Blk.new' _ _ _ _ rfl
 have hs1 : w.heap.size + 1 <= w1.heap.size := by rw [<- hW1]; simp
 have C1 := h.below a1
 have G1 : w.grownBy w1 (some g) := gb_below (grown_refl _ _) a1
 have HW1 := Lib.hid hW1
 clear hW1 h a1
 go_enter Tryz.func44, Tryz.ntmps44
 go_wp2_with fail
 rw [HW1.out]
 clear HW1
 refine (l6Vol_any g A n cp bs hn most hm w1 C1).mono ?_
 rintro e w2 ⟨v, V, K, rfl, hK, hq, ⟨gy, c, us, rfl, y2⟩, C2, g2⟩
 obtain ⟨nx, xs⟩ := V
 simp only at y2 ⊢
 have kR2 := blk_gV kR1 g2 (by omega)
 have G2 := G1.trans g2
 have s2 := g2.size
 have Hq := Lib.hid hq
 have hn16 : xs.length <= 16 := hq.len
 have hne : 0 < xs.length := hq.ne
 have Hsm := Lib.hid hq.sm
 clear hq kR1 C1 G1 g2
 obtain ⟨pv, hpv⟩ : ∃ q, w2.heap.size = q := ⟨_, rfl⟩
 obtain ⟨w3, hw3⟩ : ∃ W, w2.alloc (.cells #[.int .i64 nx, .slice (some ⟨gy, 0, none⟩) xs.length c] 26) = W := ⟨_, rfl⟩
 have b3 : Below w2.heap.size w2 w3 := by rw [<- hw3]; exact belA (bel0 w2) _
 have kP3 : Blk w3 pv 26 #[.int .i64 nx, .slice (some ⟨gy, 0, none⟩) xs.length c] := by rw [<- hw3, <- hpv]; exact Blk.new' _ _ _ _ rfl
 have kR3 := kR2.below b3 kR2.lt
 have C3 := C2.below b3
 have G3 := gb_below G2 b3
 have y3 := y2.below b3
 have hpv2 : w1.heap.size <= pv := by omega
 have hgy := y2.hi
 have hpg : pv ≠ gy := by omega
 have Hw3 := Lib.hid hw3
 have Hpv := Lib.hid hpv
 clear hw3 hpv b3 kR2 C2 G2 y2
 go_upto_region 2 with fail
 try rw [Hpv.out]
 rw [Hw3.out]
 clear Hw3 Hpv
 go_wp2_with fail
 refine (Ho.out 10 (by omega) w3 C3).mono ?_
 rintro e w4 ⟨b4, rfl, C4, g4⟩
 have kP4 := blk_gV kP3 g4 (by omega)
 have kR4 := blk_gV kR3 g4 (by omega)
 have y4 := y3.grownC g4 (by omega)
 have G4 := G3.trans g4
 clear kP3 kR3 C3 G3 y3 g4
 cases b4
 ·skip
  obtain ⟨x_0, x_1⟩ := kP4.g2
  obtain ⟨r_0, r_1⟩ := kR4.g2
  obtain ⟨rf0, rf1⟩ := kR4.f2
  have rl := kR4.lt
  go_wp2
  refine foldBPL ?_
  intro wf hwf
  have kf : Blk wf w.heap.size 26 #[.int .i64 nx, .slice (some ⟨gy, 0, none⟩) xs.length c] := by rw [hwf]; exact (kR4.put 0 (.int .i64 nx) _ rfl).put 1 (.slice (some ⟨gy, 0, none⟩) xs.length c) _ rfl
  have yf : YR wf w1.heap.size gy c xs us := by rw [hwf]; exact (y4.farV kR4 0 _).farV (kR4.put 0 (.int .i64 nx) #[.int .i64 nx, .slice none 0 0] rfl) 1 _
  have Cf : Curs wf g A n cp bs := by rw [hwf]; exact curs_set (curs_set C4 w.heap.size 0 _ (by omega)) w.heap.size 1 _ (by omega)
  have Gf : w.grownBy wf (some g) := by rw [hwf]; exact gb_set (gb_set G4 w.heap.size 0 _ (Nat.le_refl _)) w.heap.size 1 _ (Nat.le_refl _)
  clear hwf x_0 x_1 r_0 r_1 rf0 rf1 rl
  obtain ⟨x_0, x_1⟩ := kf.g2
  refine bodyPost_ret (v := .agg #[.int .i64 nx, .slice (some ⟨gy, 0, none⟩) xs.length c]) (by simp [results, Tryz.results44, go_sem, x_0, x_1]) rfl ⟨_, ⟨nx, xs⟩, rfl, Hsm.out, hne, ⟨_, _, _, rfl, yf.more (by omega)⟩, Cf, Gf⟩
 have p_1 := kP4.get 1 rfl
 go_wp2_with fail
 refine (Hb.out ((xs.length : Nat) : Int) (by omega) w4 C4).mono ?_
 rintro e w5 ⟨x, rfl, _, hx, C5, g5⟩
 obtain ⟨hx0, hx1⟩ := hx (by omega)
 obtain ⟨k, rfl⟩ : ∃ q : Nat, x = (q : Int) := ⟨x.toNat, by omega⟩
 have hk : k < xs.length := by omega
 clear hx p_1
 have kP5 := blk_gV kP4 g5 (by omega)
 have kR5 := blk_gV kR4 g5 (by omega)
 have y5 := y4.grownC g5 (by omega)
 have G5 := G4.trans g5
 clear kP4 kR4 C4 G4 y4 g5
 go_wp2_with fail
 refine (Hb.out 7 (by omega) w5 C5).mono ?_
 rintro e w6 ⟨x, rfl, _, hx, C6, g6⟩
 have hx7 := hx (by omega)
 clear hx
 have kP6 := blk_gV kP5 g6 (by omega)
 have kR6 := blk_gV kR5 g6 (by omega)
 have y6 := y5.grownC g6 (by omega)
 have G6 := G5.trans g6
 clear kP5 kR5 C5 G5 y5 g6
 have hgx := C6.lt
 obtain ⟨ze, zs⟩ : (xs[k].es.length <= 13 /\ ∀ e ∈ xs[k].es, e.s.size <= 25) /\ xs[k].s.size <= 25 := by have := Hsm.out.2 _ (List.getElem_mem hk); exact ⟨⟨this.1, this.2.1⟩, this.2.2⟩
 have Hze := Lib.hid ze
 clear ze
 rcases (show x = 0 ∨ x = 1 ∨ x = 2 ∨ x = 3 ∨ x = 4 ∨ x = 5 ∨ x = 6 by omega) with rfl | rfl | rfl | rfl | rfl | rfl | rfl
 ·clear hx7
  go_wp2_with fail
  refine (l1PickInt_any g A n cp bs hn (some ⟨w6.heap.size, 0, none⟩) 4 4 [1, 2, 100000, 100001] (by omega) (by omega) _ (C6.alloc _) (show Reads _ _ 1 _ _ _ from reads_lit w6 _ _ _ rfl) (fun ad e => by injection e with e; rw [<- e]; simp only; omega)).mono ?_
  rintro e w7 ⟨q, rfl, _, C7, g7'⟩
  have g7 := gb_al g7'
  have kP7 := blk_gV kP6 g7 (by omega)
  have kR7 := blk_gV kR6 g7 (by omega)
  have y7 := y6.grownC g7 (by omega)
  have G7 := G6.trans g7
  clear kP6 kR6 C6 G6 y6 g7 g7'
  have x_0 := kP7.get 0 rfl
  have xf0 := kP7.frozen 0
  have xl := kP7.lt
  go_upto_region 19 with fail
  clear x_0 xf0 xl
  obtain ⟨w8, hw8⟩ : ∃ W, w7.setCell ⟨pv, 0, none⟩ (.int .i64 q) = W := ⟨_, rfl⟩
  have kP8 : Blk w8 pv 26 #[.int .i64 q, .slice (some ⟨gy, 0, none⟩) xs.length c] := by rw [<- hw8]; exact kP7.put 0 _ _ rfl
  have kR8 : Blk w8 w.heap.size 26 #[.int .i64 0, .slice none 0 0] := by rw [<- hw8]; exact kR7.far (p := ⟨pv, 0, none⟩) (show w.heap.size ≠ pv by omega) _
  have y8 : YR w8 w1.heap.size gy c xs us := by rw [<- hw8]; exact y7.farV kP7 0 _
  have C8 : Curs w8 g A n cp bs := by rw [<- hw8]; exact curs_set C7 pv 0 _ (by omega)
  have G8 : w.grownBy w8 (some g) := by rw [<- hw8]; exact gb_set G7 pv 0 _ (by omega)
  rw [hw8]
  clear hw8 kP7 kR7 y7 C7 G7
  obtain ⟨x_0, x_1⟩ := kP8.g2
  obtain ⟨r_0, r_1⟩ := kR8.g2
  obtain ⟨rf0, rf1⟩ := kR8.f2
  have rl := kR8.lt
  go_wp2
  refine foldBPL ?_
  intro wf hwf
  have kf : Blk wf w.heap.size 26 #[.int .i64 q, .slice (some ⟨gy, 0, none⟩) xs.length c] := by rw [hwf]; exact (kR8.put 0 (.int .i64 q) _ rfl).put 1 (.slice (some ⟨gy, 0, none⟩) xs.length c) _ rfl
  have yf : YR wf w1.heap.size gy c xs us := by rw [hwf]; exact (y8.farV kR8 0 _).farV (kR8.put 0 (.int .i64 q) #[.int .i64 q, .slice none 0 0] rfl) 1 _
  have Cf : Curs wf g A n cp bs := by rw [hwf]; exact curs_set (curs_set C8 w.heap.size 0 _ (by omega)) w.heap.size 1 _ (by omega)
  have Gf : w.grownBy wf (some g) := by rw [hwf]; exact gb_set (gb_set G8 w.heap.size 0 _ (Nat.le_refl _)) w.heap.size 1 _ (Nat.le_refl _)
  clear hwf x_0 x_1 r_0 r_1 rf0 rf1 rl
  obtain ⟨x_0, x_1⟩ := kf.g2
  refine bodyPost_ret (v := .agg #[.int .i64 q, .slice (some ⟨gy, 0, none⟩) xs.length c]) (by simp [results, Tryz.results44, go_sem, x_0, x_1]) rfl ⟨_, ⟨q, xs⟩, rfl, Hsm.out.nx, hne, ⟨_, _, _, rfl, yf.more (by omega)⟩, Cf, Gf⟩
 ·clear hx7
  go_upto_region 10 with fail
  refine wp_region_held_drew (S := fun w' => w'.cell? ⟨pv, 1, none⟩ = some (.slice (some ⟨gy, 0, none⟩) xs.length c)) (by kernel_rfl) (by exact kP6.get 1 rfl) (fun hHeld => ?_)
  clear hHeld
  refine foldH ?_
  intro r hr0
  have bw : w6.grownBy r (some g) := by rw [hr0]; exact gb_below (grown_refl _ _) (bel0 w6).drew
  have kP : Blk r pv 26 #[.int .i64 nx, .slice (some ⟨gy, 0, none⟩) xs.length c] := by rw [hr0]; exact kP6.drew
  have kR : Blk r w.heap.size 26 #[.int .i64 0, .slice none 0 0] := by rw [hr0]; exact kR6.drew
  have pC : Curs r g A n cp bs := by rw [hr0]; exact (C6.below (bel0 w6).drew)
  have pY : YR r w1.heap.size gy c xs us := by rw [hr0]; exact (y6.below (bel0 w6).drew)
  clear hr0
  apply mem4_iw (P := fun z q => w6.grownBy q (some g) /\ Blk q pv 26 #[.int .i64 nx, .slice (some ⟨gy, 0, none⟩) xs.length c] /\ Blk q w.heap.size 26 #[.int .i64 0, .slice none 0 0] /\ Curs q g A n cp bs /\ YR q w1.heap.size gy c xs us /\ (0 <= z /\ z < 4))
  case use =>
   intro key_y1_4
   refine tkW_ 0 ?_ (hS := by exact kP.get 1 rfl)
   refine tkW_ 1 ?_ (hS := by exact kP.get 1 rfl)
   refine tkW_ 2 ?_ (hS := by exact kP.get 1 rfl)
   refine tkW_ 3 ?_ (hS := by exact kP.get 1 rfl)
   refine rd1_ 4 (fun K_ hK => ?br22005)
   case br22005 =>
    go_simp
    go_at_call 60
    refine (Hb.out 4 (by omega) _ pC).mono ?_
    rintro e q ⟨z, rfl, _, hz, hC, hg⟩
    have bw2 := bw.trans hg
    have kP2 := blk_gV kP hg (by omega)
    have kR2 := blk_gV kR hg (by omega)
    have pY2 : YR q w1.heap.size gy c xs us := (YR.grownC pY hg (by omega))
    have pC2 := hC
    have hz2 : (0 <= z /\ z < 4) := hz (by omega)
    refine hK.out _ _ (by exact kP2.get 1 rfl) (fun _ => ?_)
    clear hK K_
    try simp only [Act.put, pT_, pZ_, pS_]
    refine tkW_ 5 ?_ (hS := by exact kP2.get 1 rfl)
    refine tkW_ 6 ?_ (hS := by exact kP2.get 1 rfl)
    exact key_y1_4 z q ⟨bw2, kP2, kR2, pC2, pY2, hz2⟩
  case key =>
   rintro z r ⟨bw, kP, kR, pC, pY, hz2⟩
   try dsimp only
   refine rd1_ 7 (fun K_ hK => ?br22008)
   case br22008 =>
    obtain ⟨uv, _, _, y_0, y_1, y_2, y_3, y_4⟩ := pY.at_ hk
    have yf := pY.frozen (k * 5 + 1)
    have yl := pY.hi
    have hpl := kP.lt
    have kP9 := kP.far (p := ⟨gy, k * 5 + 1, none⟩) (show pv ≠ gy by omega) (.int .i64 z)
    have kR9 := kR.far (p := ⟨gy, k * 5 + 1, none⟩) (show w.heap.size ≠ gy by omega) (.int .i64 z)
    have y9 := pY.putX hk ⟨xs[k].id, z, xs[k].ln, xs[k].s, xs[k].es⟩ rfl (k * 5 + 1) _ (IC_set1 hk pY.2.1 z)
    have C9 := curs_set pC gy (k * 5 + 1) (.int .i64 z) (by omega)
    have G9 := gb_set (G6.trans bw) gy (k * 5 + 1) (.int .i64 z) (by omega)
    have hs9 := bw.size
    obtain ⟨w9, hw9⟩ : ∃ W, r.setCell ⟨gy, k * 5 + 1, none⟩ (.int .i64 z) = W := ⟨_, rfl⟩
    rw [hw9] at kP9 kR9 y9 C9 G9
    go_simp
    refine hK.out _ _ (by exact kP9.get 1 rfl) (fun _ => ?_)
    clear hK K_
    try simp only [Act.put, pT_, pZ_, pS_]
    try rw [hw9]
    refine wpAnyH_done (by kernel_rfl) ?_ _
    clear hw9 y_0 y_1 y_2 y_3 y_4 yf yl kP kR pY pC bw kP6 kR6 y6 C6 G6
    go_upto_region 19 with fail
    obtain ⟨x_0, x_1⟩ := kP9.g2
    obtain ⟨r_0, r_1⟩ := kR9.g2
    obtain ⟨rf0, rf1⟩ := kR9.f2
    have rl := kR9.lt
    go_wp2
    refine foldBPL ?_
    intro wf hwf
    have kf : Blk wf w.heap.size 26 #[.int .i64 nx, .slice (some ⟨gy, 0, none⟩) xs.length c] := by rw [hwf]; exact (kR9.put 0 (.int .i64 nx) _ rfl).put 1 (.slice (some ⟨gy, 0, none⟩) xs.length c) _ rfl
    have yf : YR wf w1.heap.size gy c (xs.set k ⟨xs[k].id, z, xs[k].ln, xs[k].s, xs[k].es⟩) us := by rw [hwf]; exact (y9.farV kR9 0 _).farV (kR9.put 0 (.int .i64 nx) #[.int .i64 nx, .slice none 0 0] rfl) 1 _
    have Cf : Curs wf g A n cp bs := by rw [hwf]; exact curs_set (curs_set C9 w.heap.size 0 _ (by omega)) w.heap.size 1 _ (by omega)
    have Gf : w.grownBy wf (some g) := by rw [hwf]; exact gb_set (gb_set G9 w.heap.size 0 _ (Nat.le_refl _)) w.heap.size 1 _ (Nat.le_refl _)
    clear hwf x_0 x_1 r_0 r_1 rf0 rf1 rl
    obtain ⟨x_0, x_1⟩ := kf.g2
    refine bodyPost_ret (v := .agg #[.int .i64 nx, .slice (some ⟨gy, 0, none⟩) xs.length c]) (by simp [results, Tryz.results44, go_sem, x_0, x_1]) rfl ⟨_, ⟨nx, (xs.set k ⟨xs[k].id, z, xs[k].ln, xs[k].s, xs[k].es⟩)⟩, rfl, Hsm.out.set _ ⟨Hze.out.1, Hze.out.2, zs⟩, by show 0 < (xs.set k _).length; rw [List.length_set]; exact hne, ⟨_, _, _, by rw [List.length_set], yf.more (by omega)⟩, Cf, Gf⟩
 ·clear hx7
  have hln : 0 <= xs[k].ln /\ xs[k].ln <= 100000 := by have h1 := Hq.out.ln _ (List.getElem_mem hk); simp only at h1; constructor <;> omega
  go_upto_region 12 with fail
  refine wp_region_held_drew (S := fun w' => w'.cell? ⟨pv, 1, none⟩ = some (.slice (some ⟨gy, 0, none⟩) xs.length c)) (by kernel_rfl) (by exact kP6.get 1 rfl) (fun hHeld => ?_)
  clear hHeld
  refine foldH ?_
  intro r hr0
  have bw : w6.grownBy r (some g) := by rw [hr0]; exact gb_below (grown_refl _ _) (bel0 w6).drew
  have kP : Blk r pv 26 #[.int .i64 nx, .slice (some ⟨gy, 0, none⟩) xs.length c] := by rw [hr0]; exact kP6.drew
  have kR : Blk r w.heap.size 26 #[.int .i64 0, .slice none 0 0] := by rw [hr0]; exact kR6.drew
  have pC : Curs r g A n cp bs := by rw [hr0]; exact (C6.below (bel0 w6).drew)
  have pY : YR r w1.heap.size gy c xs us := by rw [hr0]; exact (y6.below (bel0 w6).drew)
  clear hr0
  apply mem4_iw (P := fun z q => w6.grownBy q (some g) /\ Blk q pv 26 #[.int .i64 nx, .slice (some ⟨gy, 0, none⟩) xs.length c] /\ Blk q w.heap.size 26 #[.int .i64 0, .slice none 0 0] /\ Curs q g A n cp bs /\ YR q w1.heap.size gy c xs us /\ (0 <= z /\ z < 3) /\ IntKind.i64.wrap (xs[k].ln + z) = xs[k].ln + z /\ IntKind.i64.wrap (xs[k].ln + z - 1) = xs[k].ln + z - 1)
  case use =>
   intro key_y2_8_10
   apply mem4_iw (P := fun z q => w6.grownBy q (some g) /\ Blk q pv 26 #[.int .i64 nx, .slice (some ⟨gy, 0, none⟩) xs.length c] /\ Blk q w.heap.size 26 #[.int .i64 0, .slice none 0 0] /\ Curs q g A n cp bs /\ YR q w1.heap.size gy c xs us /\ (0 <= z /\ z < 3) /\ IntKind.i64.wrap (xs[k].ln + z) = xs[k].ln + z /\ IntKind.i64.wrap (xs[k].ln + z - 1) = xs[k].ln + z - 1)
   case use =>
    intro key_y2_10
    apply mem4_w (P := fun  q => w6.grownBy q (some g) /\ Blk q pv 26 #[.int .i64 nx, .slice (some ⟨gy, 0, none⟩) xs.length c] /\ Blk q w.heap.size 26 #[.int .i64 0, .slice none 0 0] /\ Curs q g A n cp bs /\ YR q w1.heap.size gy c xs us)
    case use =>
     intro key_y2_8
     refine tkW_ 0 ?_ (hS := by exact kP.get 1 rfl)
     refine tkW_ 1 ?_ (hS := by exact kP.get 1 rfl)
     refine tkW_ 2 ?_ (hS := by exact kP.get 1 rfl)
     refine tkW_ 3 ?_ (hS := by exact kP.get 1 rfl)
     refine tkW_ 4 ?_ (hS := by exact kP.get 1 rfl)
     refine tkW_ 5 ?_ (hS := by exact kP.get 1 rfl)
     refine tkW_ 6 ?_ (hS := by exact kP.get 1 rfl)
     refine tkW_ 7 ?_ (hS := by exact kP.get 1 rfl)
     refine tkW_ 9 ?_ (hS := by exact kP.get 1 rfl)
     refine rd2_ 8 10 (fun K_ hK => ?br24010) (fun K_ hK => ?br24011)
     case br24010 =>
      have x_0 := (pY.at_ hk).choose_spec.2.2.2.2.1
      go_simp
      refine hK.out _ _ (by exact kP.get 1 rfl) (fun _ => ?_)
      clear hK K_
      try simp only [Act.put, pT_, pZ_, pS_]
      exact key_y2_8  r ⟨bw, kP, kR, pC, pY⟩
     case br24011 =>
      go_simp
      go_at_call 60
      refine (Hb.out 3 (by omega) _ pC).mono ?_
      rintro e q ⟨z, rfl, _, hz, hC, hg⟩
      have bw2 := bw.trans hg
      have kP2 := blk_gV kP hg (by omega)
      have kR2 := blk_gV kR hg (by omega)
      have pY2 : YR q w1.heap.size gy c xs us := (YR.grownC pY hg (by omega))
      have pC2 := hC
      have hz2 : (0 <= z /\ z < 3) := hz (by omega)
      have wz1 : IntKind.i64.wrap (xs[k].ln + z) = xs[k].ln + z := by have := hz (by omega); rw [IntKind.wrap_i64]; omega
      have wz2 : IntKind.i64.wrap (xs[k].ln + z - 1) = xs[k].ln + z - 1 := by have := hz (by omega); rw [IntKind.wrap_i64]; omega
      refine hK.out _ _ (by exact kP2.get 1 rfl) (fun _ => ?_)
      clear hK K_
      try simp only [Act.put, pT_, pZ_, pS_]
      exact key_y2_10 z q ⟨bw2, kP2, kR2, pC2, pY2, hz2, wz1, wz2⟩
    case key =>
     rintro  r ⟨bw, kP, kR, pC, pY⟩
     try dsimp only
     refine rd1_ 10 (fun K_ hK => ?br24012)
     case br24012 =>
      go_simp
      go_at_call 60
      refine (Hb.out 3 (by omega) _ pC).mono ?_
      rintro e q ⟨z, rfl, _, hz, hC, hg⟩
      have bw2 := bw.trans hg
      have kP2 := blk_gV kP hg (by omega)
      have kR2 := blk_gV kR hg (by omega)
      have pY2 : YR q w1.heap.size gy c xs us := (YR.grownC pY hg (by omega))
      have pC2 := hC
      have hz2 : (0 <= z /\ z < 3) := hz (by omega)
      have wz1 : IntKind.i64.wrap (xs[k].ln + z) = xs[k].ln + z := by have := hz (by omega); rw [IntKind.wrap_i64]; omega
      have wz2 : IntKind.i64.wrap (xs[k].ln + z - 1) = xs[k].ln + z - 1 := by have := hz (by omega); rw [IntKind.wrap_i64]; omega
      refine hK.out _ _ (by exact kP2.get 1 rfl) (fun _ => ?_)
      clear hK K_
      try simp only [Act.put, pT_, pZ_, pS_]
      refine tkW_ 11 ?_ (hS := by exact kP2.get 1 rfl)
      refine tkW_ 12 ?_ (hS := by exact kP2.get 1 rfl)
      refine tkW_ 13 ?_ (hS := by exact kP2.get 1 rfl)
      refine tkW_ 14 ?_ (hS := by exact kP2.get 1 rfl)
      exact key_y2_8_10 z q ⟨bw2, kP2, kR2, pC2, pY2, hz2, wz1, wz2⟩
   case key =>
    rintro z r ⟨bw, kP, kR, pC, pY, hz2, wz1, wz2⟩
    try dsimp only
    refine rd1_ 8 (fun K_ hK => ?br24017)
    case br24017 =>
     have x_0 := (pY.at_ hk).choose_spec.2.2.2.2.1
     go_simp
     refine hK.out _ _ (by exact kP.get 1 rfl) (fun _ => ?_)
     clear hK K_
     try simp only [Act.put, pT_, pZ_, pS_]
     refine tkW_ 11 ?_ (hS := by exact kP.get 1 rfl)
     refine tkW_ 12 ?_ (hS := by exact kP.get 1 rfl)
     refine tkW_ 13 ?_ (hS := by exact kP.get 1 rfl)
     refine tkW_ 14 ?_ (hS := by exact kP.get 1 rfl)
     exact key_y2_8_10 z r ⟨bw, kP, kR, pC, pY, hz2, wz1, wz2⟩
  case key =>
   rintro z r ⟨bw, kP, kR, pC, pY, hz2, wz1, wz2⟩
   try dsimp only
   refine rd1_ 15 (fun K_ hK => ?br24022)
   case br24022 =>
    obtain ⟨uv, _, _, y_0, y_1, y_2, y_3, y_4⟩ := pY.at_ hk
    have yf := pY.frozen (k * 5 + 2)
    have yl := pY.hi
    have hpl := kP.lt
    have kP9 := kP.far (p := ⟨gy, k * 5 + 2, none⟩) (show pv ≠ gy by omega) (.int .i64 (xs[k].ln + z - 1))
    have kR9 := kR.far (p := ⟨gy, k * 5 + 2, none⟩) (show w.heap.size ≠ gy by omega) (.int .i64 (xs[k].ln + z - 1))
    have y9 := pY.putL hk (xs[k].ln + z - 1)
    have C9 := curs_set pC gy (k * 5 + 2) (.int .i64 (xs[k].ln + z - 1)) (by omega)
    have G9 := gb_set (G6.trans bw) gy (k * 5 + 2) (.int .i64 (xs[k].ln + z - 1)) (by omega)
    have hs9 := bw.size
    obtain ⟨w9, hw9⟩ : ∃ W, r.setCell ⟨gy, k * 5 + 2, none⟩ (.int .i64 (xs[k].ln + z - 1)) = W := ⟨_, rfl⟩
    rw [hw9] at kP9 kR9 y9 C9 G9
    go_simp
    refine hK.out _ _ (by exact kP9.get 1 rfl) (fun _ => ?_)
    clear hK K_
    try simp only [Act.put, pT_, pZ_, pS_]
    try rw [hw9]
    refine wpAnyH_done (by kernel_rfl) ?_ _
    clear hw9 y_0 y_1 y_2 y_3 y_4 yf yl kP kR pY pC bw kP6 kR6 y6 C6 G6
    go_upto_region 19 with fail
    obtain ⟨x_0, x_1⟩ := kP9.g2
    obtain ⟨r_0, r_1⟩ := kR9.g2
    obtain ⟨rf0, rf1⟩ := kR9.f2
    have rl := kR9.lt
    go_wp2
    refine foldBPL ?_
    intro wf hwf
    have kf : Blk wf w.heap.size 26 #[.int .i64 nx, .slice (some ⟨gy, 0, none⟩) xs.length c] := by rw [hwf]; exact (kR9.put 0 (.int .i64 nx) _ rfl).put 1 (.slice (some ⟨gy, 0, none⟩) xs.length c) _ rfl
    have yf : YR wf w1.heap.size gy c (ptL xs k (xs[k].ln + z - 1)) us := by rw [hwf]; exact (y9.farV kR9 0 _).farV (kR9.put 0 (.int .i64 nx) #[.int .i64 nx, .slice none 0 0] rfl) 1 _
    have Cf : Curs wf g A n cp bs := by rw [hwf]; exact curs_set (curs_set C9 w.heap.size 0 _ (by omega)) w.heap.size 1 _ (by omega)
    have Gf : w.grownBy wf (some g) := by rw [hwf]; exact gb_set (gb_set G9 w.heap.size 0 _ (Nat.le_refl _)) w.heap.size 1 _ (Nat.le_refl _)
    clear hwf x_0 x_1 r_0 r_1 rf0 rf1 rl
    obtain ⟨x_0, x_1⟩ := kf.g2
    refine bodyPost_ret (v := .agg #[.int .i64 nx, .slice (some ⟨gy, 0, none⟩) xs.length c]) (by simp [results, Tryz.results44, go_sem, x_0, x_1]) rfl ⟨_, ⟨nx, (ptL xs k (xs[k].ln + z - 1))⟩, rfl, (by rw [putL_at hk]; exact Hsm.out.set _ ⟨Hze.out.1, Hze.out.2, zs⟩), by show 0 < (ptL xs k _).length; rw [putL_len]; exact hne, ⟨_, _, _, by rw [putL_len], yf.more (by omega)⟩, Cf, Gf⟩
 ·clear hx7
  have u1 : ¬ 9223372036854775807 < xs[k].s.size + 1 := by omega
  have hsx : (xs[k].s ++ ⟨#[120]⟩).size <= 25 := by have h1 : xs[k].s.size <= 20 := Hq.out.s _ (List.getElem_mem hk); rw [ByteArray.size_append]; have h2 : (⟨#[120]⟩ : ByteArray).size = 1 := rfl; omega
  have Hsx := Lib.hid hsx
  clear hsx
  go_upto_region 14 with fail
  refine wp_region_held_drew (S := fun w' => w'.cell? ⟨pv, 1, none⟩ = some (.slice (some ⟨gy, 0, none⟩) xs.length c)) (by kernel_rfl) (by exact kP6.get 1 rfl) (fun hHeld => ?_)
  clear hHeld
  refine foldH ?_
  intro r hr0
  have bw : w6.grownBy r (some g) := by rw [hr0]; exact gb_below (grown_refl _ _) (bel0 w6).drew
  have kP : Blk r pv 26 #[.int .i64 nx, .slice (some ⟨gy, 0, none⟩) xs.length c] := by rw [hr0]; exact kP6.drew
  have kR : Blk r w.heap.size 26 #[.int .i64 0, .slice none 0 0] := by rw [hr0]; exact kR6.drew
  have pC : Curs r g A n cp bs := by rw [hr0]; exact (C6.below (bel0 w6).drew)
  have pY : YR r w1.heap.size gy c xs us := by rw [hr0]; exact (y6.below (bel0 w6).drew)
  clear hr0
  apply mem4_w (P := fun  q => w6.grownBy q (some g) /\ Blk q pv 26 #[.int .i64 nx, .slice (some ⟨gy, 0, none⟩) xs.length c] /\ Blk q w.heap.size 26 #[.int .i64 0, .slice none 0 0] /\ Curs q g A n cp bs /\ YR q w1.heap.size gy c xs us)
  case use =>
   intro key_y3_8
   refine tkW_ 0 ?_ (hS := by exact kP.get 1 rfl)
   refine tkW_ 1 ?_ (hS := by exact kP.get 1 rfl)
   refine tkW_ 2 ?_ (hS := by exact kP.get 1 rfl)
   refine tkW_ 3 ?_ (hS := by exact kP.get 1 rfl)
   refine tkW_ 4 ?_ (hS := by exact kP.get 1 rfl)
   refine tkW_ 5 ?_ (hS := by exact kP.get 1 rfl)
   refine tkW_ 6 ?_ (hS := by exact kP.get 1 rfl)
   refine tkW_ 7 ?_ (hS := by exact kP.get 1 rfl)
   refine rd1_ 8 (fun K_ hK => ?br25009)
   case br25009 =>
    have x_0 := (pY.at_ hk).choose_spec.2.2.2.2.2.1
    go_simp
    refine hK.out _ _ (by exact kP.get 1 rfl) (fun _ => ?_)
    clear hK K_
    try simp only [Act.put, pT_, pZ_, pS_]
    refine tkW_ 9 ?_ (hS := by exact kP.get 1 rfl)
    refine tkW_ 10 ?_ (hS := by exact kP.get 1 rfl)
    refine tkW_ 11 ?_ (hS := by exact kP.get 1 rfl)
    exact key_y3_8  r ⟨bw, kP, kR, pC, pY⟩
  case key =>
   rintro  r ⟨bw, kP, kR, pC, pY⟩
   try dsimp only
   refine rd1_ 12 (fun K_ hK => ?br25013)
   case br25013 =>
    obtain ⟨uv, _, _, y_0, y_1, y_2, y_3, y_4⟩ := pY.at_ hk
    have yf := pY.frozen (k * 5 + 3)
    have yl := pY.hi
    have hpl := kP.lt
    have kP9 := kP.far (p := ⟨gy, k * 5 + 3, none⟩) (show pv ≠ gy by omega) (.string (xs[k].s ++ ⟨#[120]⟩))
    have kR9 := kR.far (p := ⟨gy, k * 5 + 3, none⟩) (show w.heap.size ≠ gy by omega) (.string (xs[k].s ++ ⟨#[120]⟩))
    have y9 := pY.putS hk (xs[k].s ++ ⟨#[120]⟩)
    have C9 := curs_set pC gy (k * 5 + 3) (.string (xs[k].s ++ ⟨#[120]⟩)) (by omega)
    have G9 := gb_set (G6.trans bw) gy (k * 5 + 3) (.string (xs[k].s ++ ⟨#[120]⟩)) (by omega)
    have hs9 := bw.size
    obtain ⟨w9, hw9⟩ : ∃ W, r.setCell ⟨gy, k * 5 + 3, none⟩ (.string (xs[k].s ++ ⟨#[120]⟩)) = W := ⟨_, rfl⟩
    rw [hw9] at kP9 kR9 y9 C9 G9
    go_simp
    refine hK.out _ _ (by exact kP9.get 1 rfl) (fun _ => ?_)
    clear hK K_
    try simp only [Act.put, pT_, pZ_, pS_]
    try rw [hw9]
    refine wpAnyH_done (by kernel_rfl) ?_ _
    clear hw9 y_0 y_1 y_2 y_3 y_4 yf yl kP kR pY pC bw kP6 kR6 y6 C6 G6
    go_upto_region 19 with fail
    obtain ⟨x_0, x_1⟩ := kP9.g2
    obtain ⟨r_0, r_1⟩ := kR9.g2
    obtain ⟨rf0, rf1⟩ := kR9.f2
    have rl := kR9.lt
    go_wp2
    refine foldBPL ?_
    intro wf hwf
    have kf : Blk wf w.heap.size 26 #[.int .i64 nx, .slice (some ⟨gy, 0, none⟩) xs.length c] := by rw [hwf]; exact (kR9.put 0 (.int .i64 nx) _ rfl).put 1 (.slice (some ⟨gy, 0, none⟩) xs.length c) _ rfl
    have yf : YR wf w1.heap.size gy c (ptS xs k (xs[k].s ++ ⟨#[120]⟩)) us := by rw [hwf]; exact (y9.farV kR9 0 _).farV (kR9.put 0 (.int .i64 nx) #[.int .i64 nx, .slice none 0 0] rfl) 1 _
    have Cf : Curs wf g A n cp bs := by rw [hwf]; exact curs_set (curs_set C9 w.heap.size 0 _ (by omega)) w.heap.size 1 _ (by omega)
    have Gf : w.grownBy wf (some g) := by rw [hwf]; exact gb_set (gb_set G9 w.heap.size 0 _ (Nat.le_refl _)) w.heap.size 1 _ (Nat.le_refl _)
    clear hwf x_0 x_1 r_0 r_1 rf0 rf1 rl
    obtain ⟨x_0, x_1⟩ := kf.g2
    refine bodyPost_ret (v := .agg #[.int .i64 nx, .slice (some ⟨gy, 0, none⟩) xs.length c]) (by simp [results, Tryz.results44, go_sem, x_0, x_1]) rfl ⟨_, ⟨nx, (ptS xs k (xs[k].s ++ ⟨#[120]⟩))⟩, rfl, (by rw [putS_at hk]; exact Hsm.out.set _ ⟨Hze.out.1, Hze.out.2, Hsx.out⟩), by show 0 < (ptS xs k _).length; rw [putS_len]; exact hne, ⟨_, _, _, by rw [putS_len], yf.more (by omega)⟩, Cf, Gf⟩
 ·clear hx7
  have hgr6 : w1.heap.size <= w6.heap.size := by have := kP6.lt; omega
  go_upto_region 16 with fail
  refine wp_region_held_drew (S := fun w' => w'.cell? ⟨pv, 1, none⟩ = some (.slice (some ⟨gy, 0, none⟩) xs.length c)) (by kernel_rfl) (by exact kP6.get 1 rfl) (fun hHeld => ?_)
  clear hHeld
  refine foldH ?_
  intro r hr0
  have bw : w6.grownBy r (some g) := by rw [hr0]; exact gb_below (grown_refl _ _) (bel0 w6).drew
  have kP : Blk r pv 26 #[.int .i64 nx, .slice (some ⟨gy, 0, none⟩) xs.length c] := by rw [hr0]; exact kP6.drew
  have kR : Blk r w.heap.size 26 #[.int .i64 0, .slice none 0 0] := by rw [hr0]; exact kR6.drew
  have pC : Curs r g A n cp bs := by rw [hr0]; exact (C6.below (bel0 w6).drew)
  have pY : YR r w1.heap.size gy c xs us := by rw [hr0]; exact (y6.below (bel0 w6).drew)
  clear hr0
  apply mem4_evw (P := fun ds v2 q => w6.grownBy q (some g) /\ Blk q pv 26 #[.int .i64 nx, .slice (some ⟨gy, 0, none⟩) xs.length c] /\ Blk q w.heap.size 26 #[.int .i64 0, .slice none 0 0] /\ Curs q g A n cp bs /\ World.ownsRow q w1.heap.size 38 4 v2 ds.length (ES ds) /\ YR q w1.heap.size gy c xs us /\ (ds.length <= 13 /\ ∀ e ∈ ds, e.s.size <= 25))
  case use =>
   intro key_y4_4
   refine tkW_ 0 ?_ (hS := by exact kP.get 1 rfl)
   refine tkW_ 1 ?_ (hS := by exact kP.get 1 rfl)
   refine tkW_ 2 ?_ (hS := by exact kP.get 1 rfl)
   refine tkW_ 3 ?_ (hS := by exact kP.get 1 rfl)
   refine rd1_ 4 (fun K_ hK => ?br26005)
   case br26005 =>
    go_simp
    go_at_call 87
    refine (l5Any_any g A n cp bs hn 4 (by omega) _ pC).mono ?_
    rintro e q ⟨v2, ds, rfl, hd1, hd2, hd3, hC, hg⟩
    have bw2 := bw.trans hg
    have kP2 := blk_gV kP hg (by omega)
    have kR2 := blk_gV kR hg (by omega)
    have pY2 : YR q w1.heap.size gy c xs us := (YR.grownC pY hg (by omega))
    have pC2 := hC
    have pE2 := own_more hd3 (show w1.heap.size <= r.heap.size by have := bw.size; have := hgr6; omega)
    have hds : (ds.length <= 13 /\ ∀ e ∈ ds, e.s.size <= 25) := ⟨hd1, hd2⟩
    refine hK.out _ _ (by exact kP2.get 1 rfl) (fun _ => ?_)
    clear hK K_
    try simp only [Act.put, pT_, pZ_, pS_]
    refine tkW_ 5 ?_ (hS := by exact kP2.get 1 rfl)
    refine tkW_ 6 ?_ (hS := by exact kP2.get 1 rfl)
    exact key_y4_4 ds v2 q ⟨bw2, kP2, kR2, pC2, pE2, pY2, hds⟩
  case key =>
   rintro ds v2 r ⟨bw, kP, kR, pC, pE, pY, hds⟩
   try dsimp only
   refine rd1_ 7 (fun K_ hK => ?br26008)
   case br26008 =>
    obtain ⟨Ae, ce, rfl, _⟩ := own_vals pE
    obtain ⟨uv, _, _, y_0, y_1, y_2, y_3, y_4⟩ := pY.at_ hk
    have yf := pY.frozen (k * 5 + 4)
    have yl := pY.hi
    have hpl := kP.lt
    have kP9 := kP.far (p := ⟨gy, k * 5 + 4, none⟩) (show pv ≠ gy by omega) ((.slice Ae ds.length ce))
    have kR9 := kR.far (p := ⟨gy, k * 5 + 4, none⟩) (show w.heap.size ≠ gy by omega) ((.slice Ae ds.length ce))
    have y9 := YR.putE pY.1 (pY.2.x k) hk pE
    have C9 := curs_set pC gy (k * 5 + 4) ((.slice Ae ds.length ce)) (by omega)
    have G9 := gb_set (G6.trans bw) gy (k * 5 + 4) ((.slice Ae ds.length ce)) (by omega)
    have hs9 := bw.size
    obtain ⟨w9, hw9⟩ : ∃ W, r.setCell ⟨gy, k * 5 + 4, none⟩ ((.slice Ae ds.length ce)) = W := ⟨_, rfl⟩
    rw [hw9] at kP9 kR9 y9 C9 G9
    go_simp
    refine hK.out _ _ (by exact kP9.get 1 rfl) (fun _ => ?_)
    clear hK K_
    try simp only [Act.put, pT_, pZ_, pS_]
    try rw [hw9]
    refine wpAnyH_done (by kernel_rfl) ?_ _
    clear hw9 y_0 y_1 y_2 y_3 y_4 yf yl kP kR pY pC bw kP6 kR6 y6 C6 G6
    go_upto_region 19 with fail
    obtain ⟨x_0, x_1⟩ := kP9.g2
    obtain ⟨r_0, r_1⟩ := kR9.g2
    obtain ⟨rf0, rf1⟩ := kR9.f2
    have rl := kR9.lt
    go_wp2
    refine foldBPL ?_
    intro wf hwf
    have kf : Blk wf w.heap.size 26 #[.int .i64 nx, .slice (some ⟨gy, 0, none⟩) xs.length c] := by rw [hwf]; exact (kR9.put 0 (.int .i64 nx) _ rfl).put 1 (.slice (some ⟨gy, 0, none⟩) xs.length c) _ rfl
    have yf : YR wf w1.heap.size gy c (ptE xs k ds) (us.set k (.slice Ae ds.length ce)) := by rw [hwf]; exact (y9.farV kR9 0 _).farV (kR9.put 0 (.int .i64 nx) #[.int .i64 nx, .slice none 0 0] rfl) 1 _
    have Cf : Curs wf g A n cp bs := by rw [hwf]; exact curs_set (curs_set C9 w.heap.size 0 _ (by omega)) w.heap.size 1 _ (by omega)
    have Gf : w.grownBy wf (some g) := by rw [hwf]; exact gb_set (gb_set G9 w.heap.size 0 _ (Nat.le_refl _)) w.heap.size 1 _ (Nat.le_refl _)
    clear hwf x_0 x_1 r_0 r_1 rf0 rf1 rl
    obtain ⟨x_0, x_1⟩ := kf.g2
    refine bodyPost_ret (v := .agg #[.int .i64 nx, .slice (some ⟨gy, 0, none⟩) xs.length c]) (by simp [results, Tryz.results44, go_sem, x_0, x_1]) rfl ⟨_, ⟨nx, (ptE xs k ds)⟩, rfl, (by rw [putE_at hk]; exact Hsm.out.set _ ⟨hds.1, hds.2, zs⟩), by show 0 < (ptE xs k _).length; rw [putE_len]; exact hne, ⟨_, _, _, by rw [putE_len], yf.more (by omega)⟩, Cf, Gf⟩
 ·clear hx7
  have wn : IntKind.i64.wrap (nx - 1) = nx - 1 := by have h1 := Hq.out.nx; simp only at h1; rw [IntKind.wrap_i64]; omega
  obtain ⟨p_0, p_1⟩ := kP6.g2
  have Own6 := Lib.hid y6.1
  have hy6 := y6.hi
  have hp6 := kP6.lt
  go_upto_region 19 with (at_builtin; refine wpList_app _ rfl _ _ _ rfl Tryz.el_ino (Own6.out.alloc (.cells #[.int .i64 (nx - 1), .int .i64 1, .int .i64 0, .string ⟨#[]⟩, .slice none 0 0] 36)) rfl (reads_new _ #[.int .i64 (nx - 1), .int .i64 1, .int .i64 0, .string ⟨#[]⟩, .slice none 0 0] 36 5 1 rfl) rfl (by simp [Value.oneCell']) (by unfold maxLen; omega) (by omega) (by simp; omega) ?_; intro v13 w13 own13 hg13 hc13 hb13; obtain ⟨D9, d9, rfl⟩ := own_form1 own13 (by omega); have kP13 := (kP6.alloc (.cells #[.int .i64 (nx - 1), .int .i64 1, .int .i64 0, .string ⟨#[]⟩, .slice none 0 0] 36)).grown hg13 (fun e => by have e2 : pv = gy := (by simpa [Value.ownBlock] using e); omega); have x1 := kP13.get 1 rfl; have f1 := kP13.frozen 1; have l1 := kP13.lt)
  try clear x1
  try clear f1
  try clear l1
  clear p_0 p_1
  have kR13 := (kR6.alloc (.cells #[.int .i64 (nx - 1), .int .i64 1, .int .i64 0, .string ⟨#[]⟩, .slice none 0 0] 36)).grown hg13 (fun e => by have e2 : w.heap.size = gy := (by simpa [Value.ownBlock] using e); omega)
  have y13 : YR w13 w1.heap.size D9 d9 (xs ++ [(⟨nx - 1, 1, 0, ⟨#[]⟩, []⟩ : InoD)]) (us ++ [.slice none 0 0]) := ⟨by rw [List.length_append]; exact own_snocI y6.2.1 own13, ((y6.2.below (belA (bel0 w6) (.cells #[.int .i64 (nx - 1), .int .i64 1, .int .i64 0, .string ⟨#[]⟩, .slice none 0 0] 36))).snoc ⟨nx - 1, 1, 0, ⟨#[]⟩, []⟩ (.slice none 0 0) (own_nilC _ _ _ _)).kept (Own6.out.alloc (.cells #[.int .i64 (nx - 1), .int .i64 1, .int .i64 0, .string ⟨#[]⟩, .slice none 0 0] 36)) hg13⟩
  have C13 := (C6.alloc (.cells #[.int .i64 (nx - 1), .int .i64 1, .int .i64 0, .string ⟨#[]⟩, .slice none 0 0] 36)).bel hb13 (by omega)
  have G13 := gb_bel0 (gb_below G6 (belA (bel0 w6) (.cells #[.int .i64 (nx - 1), .int .i64 1, .int .i64 0, .string ⟨#[]⟩, .slice none 0 0] 36))) (hb13.mono (show w.heap.size <= w1.heap.size by omega))
  obtain ⟨w8, hw8⟩ : ∃ W, w13.setCell ⟨pv, 1, none⟩ (.slice (some ⟨D9, 0, none⟩) (xs.length + 1) d9) = W := ⟨_, rfl⟩
  have kP8 : Blk w8 pv 26 #[.int .i64 nx, .slice (some ⟨D9, 0, none⟩) (xs.length + 1) d9] := by rw [<- hw8]; exact kP13.put 1 _ _ rfl
  have kR8 : Blk w8 w.heap.size 26 #[.int .i64 0, .slice none 0 0] := by rw [<- hw8]; exact kR13.far (p := ⟨pv, 1, none⟩) (show w.heap.size ≠ pv by omega) _
  have y8 : YR w8 w1.heap.size D9 d9 (xs ++ [(⟨nx - 1, 1, 0, ⟨#[]⟩, []⟩ : InoD)]) (us ++ [.slice none 0 0]) := by rw [<- hw8]; exact y13.farV kP13 1 _
  have C8 : Curs w8 g A n cp bs := by rw [<- hw8]; exact curs_set C13 pv 1 _ (by omega)
  have G8 : w.grownBy w8 (some g) := by rw [<- hw8]; exact gb_set G13 pv 1 _ (by omega)
  rw [hw8]
  clear hw8 kP13 kR13 y13 C13 G13 hg13 hb13 hc13 own13 kP6 kR6 y6 C6 G6 Own6
  have hsx : SmV ⟨nx, (xs ++ [(⟨nx - 1, 1, 0, ⟨#[]⟩, []⟩ : InoD)])⟩ := by
   refine ⟨by show (xs ++ [(⟨nx - 1, 1, 0, ⟨#[]⟩, []⟩ : InoD)]).length <= 17; rw [List.length_append]; simp only [List.length_cons, List.length_nil]; omega, fun x hx => ?_⟩
   rcases List.mem_append.1 hx with h1 | h1
   ·exact Hsm.out.2 x h1
   ·rw [List.mem_singleton.1 h1]; exact ⟨Nat.zero_le _, fun e he => absurd he List.not_mem_nil, Nat.zero_le _⟩
  have Hsx := Lib.hid hsx
  clear hsx
  obtain ⟨x_0, x_1⟩ := kP8.g2
  obtain ⟨r_0, r_1⟩ := kR8.g2
  obtain ⟨rf0, rf1⟩ := kR8.f2
  have rl := kR8.lt
  go_wp2
  refine foldBPL ?_
  intro wf hwf
  have kf : Blk wf w.heap.size 26 #[.int .i64 nx, .slice (some ⟨D9, 0, none⟩) (xs.length + 1) d9] := by rw [hwf]; exact (kR8.put 0 (.int .i64 nx) _ rfl).put 1 (.slice (some ⟨D9, 0, none⟩) (xs.length + 1) d9) _ rfl
  have yf : YR wf w1.heap.size D9 d9 (xs ++ [(⟨nx - 1, 1, 0, ⟨#[]⟩, []⟩ : InoD)]) (us ++ [.slice none 0 0]) := by rw [hwf]; exact (y8.farV kR8 0 _).farV (kR8.put 0 (.int .i64 nx) #[.int .i64 nx, .slice none 0 0] rfl) 1 _
  have Cf : Curs wf g A n cp bs := by rw [hwf]; exact curs_set (curs_set C8 w.heap.size 0 _ (by omega)) w.heap.size 1 _ (by omega)
  have Gf : w.grownBy wf (some g) := by rw [hwf]; exact gb_set (gb_set G8 w.heap.size 0 _ (Nat.le_refl _)) w.heap.size 1 _ (Nat.le_refl _)
  clear hwf x_0 x_1 r_0 r_1 rf0 rf1 rl
  obtain ⟨x_0, x_1⟩ := kf.g2
  refine bodyPost_ret (v := .agg #[.int .i64 nx, .slice (some ⟨D9, 0, none⟩) (xs.length + 1) d9]) (by simp [results, Tryz.results44, go_sem, x_0, x_1]) rfl ⟨_, ⟨nx, (xs ++ [(⟨nx - 1, 1, 0, ⟨#[]⟩, []⟩ : InoD)])⟩, rfl, Hsx.out, by show 0 < (xs ++ [(⟨nx - 1, 1, 0, ⟨#[]⟩, []⟩ : InoD)]).length; rw [List.length_append]; omega, ⟨_, _, _, by rw [List.length_append]; rfl, yf.more (by omega)⟩, Cf, Gf⟩
 ·clear hx7
  go_upto_region 6 with fail
  refine wp_region_held_drew (S := fun w' => w'.cell? ⟨pv, 1, none⟩ = some (.slice (some ⟨gy, 0, none⟩) xs.length c)) (by kernel_rfl) (by exact kP6.get 1 rfl) (fun hHeld => ?_)
  clear hHeld
  refine foldH ?_
  intro r hr0
  have bw : w6.grownBy r (some g) := by rw [hr0]; exact gb_below (grown_refl _ _) (bel0 w6).drew
  have kP : Blk r pv 26 #[.int .i64 nx, .slice (some ⟨gy, 0, none⟩) xs.length c] := by rw [hr0]; exact kP6.drew
  have kR : Blk r w.heap.size 26 #[.int .i64 0, .slice none 0 0] := by rw [hr0]; exact kR6.drew
  have pC : Curs r g A n cp bs := by rw [hr0]; exact (C6.below (bel0 w6).drew)
  have pY : YR r w1.heap.size gy c xs us := by rw [hr0]; exact (y6.below (bel0 w6).drew)
  clear hr0
  apply mem4_iw (P := fun z q => w6.grownBy q (some g) /\ Blk q pv 26 #[.int .i64 nx, .slice (some ⟨gy, 0, none⟩) xs.length c] /\ Blk q w.heap.size 26 #[.int .i64 0, .slice none 0 0] /\ Curs q g A n cp bs /\ YR q w1.heap.size gy c xs us /\ (0 <= z /\ z < 4))
  case use =>
   intro key_y6_4
   refine tkW_ 0 ?_ (hS := by exact kP.get 1 rfl)
   refine tkW_ 1 ?_ (hS := by exact kP.get 1 rfl)
   refine tkW_ 2 ?_ (hS := by exact kP.get 1 rfl)
   refine tkW_ 3 ?_ (hS := by exact kP.get 1 rfl)
   refine rd1_ 4 (fun K_ hK => ?br23005)
   case br23005 =>
    go_simp
    go_at_call 60
    refine (Hb.out 4 (by omega) _ pC).mono ?_
    rintro e q ⟨z, rfl, _, hz, hC, hg⟩
    have bw2 := bw.trans hg
    have kP2 := blk_gV kP hg (by omega)
    have kR2 := blk_gV kR hg (by omega)
    have pY2 : YR q w1.heap.size gy c xs us := (YR.grownC pY hg (by omega))
    have pC2 := hC
    have hz2 : (0 <= z /\ z < 4) := hz (by omega)
    refine hK.out _ _ (by exact kP2.get 1 rfl) (fun _ => ?_)
    clear hK K_
    try simp only [Act.put, pT_, pZ_, pS_]
    refine tkW_ 5 ?_ (hS := by exact kP2.get 1 rfl)
    refine tkW_ 6 ?_ (hS := by exact kP2.get 1 rfl)
    exact key_y6_4 z q ⟨bw2, kP2, kR2, pC2, pY2, hz2⟩
  case key =>
   rintro z r ⟨bw, kP, kR, pC, pY, hz2⟩
   try dsimp only
   refine rd1_ 7 (fun K_ hK => ?br23008)
   case br23008 =>
    obtain ⟨uv, _, _, y_0, y_1, y_2, y_3, y_4⟩ := pY.at_ hk
    have yf := pY.frozen (k * 5)
    have yl := pY.hi
    have hpl := kP.lt
    have kP9 := kP.far (p := ⟨gy, k * 5, none⟩) (show pv ≠ gy by omega) (.int .i64 z)
    have kR9 := kR.far (p := ⟨gy, k * 5, none⟩) (show w.heap.size ≠ gy by omega) (.int .i64 z)
    have y9 := pY.putX hk ⟨z, xs[k].kd, xs[k].ln, xs[k].s, xs[k].es⟩ rfl (k * 5) _ (IC_set0 hk pY.2.1 z)
    have C9 := curs_set pC gy (k * 5) (.int .i64 z) (by omega)
    have G9 := gb_set (G6.trans bw) gy (k * 5) (.int .i64 z) (by omega)
    have hs9 := bw.size
    obtain ⟨w9, hw9⟩ : ∃ W, r.setCell ⟨gy, k * 5, none⟩ (.int .i64 z) = W := ⟨_, rfl⟩
    rw [hw9] at kP9 kR9 y9 C9 G9
    go_simp
    refine hK.out _ _ (by exact kP9.get 1 rfl) (fun _ => ?_)
    clear hK K_
    try simp only [Act.put, pT_, pZ_, pS_]
    try rw [hw9]
    refine wpAnyH_done (by kernel_rfl) ?_ _
    clear hw9 y_0 y_1 y_2 y_3 y_4 yf yl kP kR pY pC bw kP6 kR6 y6 C6 G6
    go_upto_region 19 with fail
    obtain ⟨x_0, x_1⟩ := kP9.g2
    obtain ⟨r_0, r_1⟩ := kR9.g2
    obtain ⟨rf0, rf1⟩ := kR9.f2
    have rl := kR9.lt
    go_wp2
    refine foldBPL ?_
    intro wf hwf
    have kf : Blk wf w.heap.size 26 #[.int .i64 nx, .slice (some ⟨gy, 0, none⟩) xs.length c] := by rw [hwf]; exact (kR9.put 0 (.int .i64 nx) _ rfl).put 1 (.slice (some ⟨gy, 0, none⟩) xs.length c) _ rfl
    have yf : YR wf w1.heap.size gy c (xs.set k ⟨z, xs[k].kd, xs[k].ln, xs[k].s, xs[k].es⟩) us := by rw [hwf]; exact (y9.farV kR9 0 _).farV (kR9.put 0 (.int .i64 nx) #[.int .i64 nx, .slice none 0 0] rfl) 1 _
    have Cf : Curs wf g A n cp bs := by rw [hwf]; exact curs_set (curs_set C9 w.heap.size 0 _ (by omega)) w.heap.size 1 _ (by omega)
    have Gf : w.grownBy wf (some g) := by rw [hwf]; exact gb_set (gb_set G9 w.heap.size 0 _ (Nat.le_refl _)) w.heap.size 1 _ (Nat.le_refl _)
    clear hwf x_0 x_1 r_0 r_1 rf0 rf1 rl
    obtain ⟨x_0, x_1⟩ := kf.g2
    refine bodyPost_ret (v := .agg #[.int .i64 nx, .slice (some ⟨gy, 0, none⟩) xs.length c]) (by simp [results, Tryz.results44, go_sem, x_0, x_1]) rfl ⟨_, ⟨nx, (xs.set k ⟨z, xs[k].kd, xs[k].ln, xs[k].s, xs[k].es⟩)⟩, rfl, Hsm.out.set _ ⟨Hze.out.1, Hze.out.2, zs⟩, by show 0 < (xs.set k _).length; rw [List.length_set]; exact hne, ⟨_, _, _, by rw [List.length_set], yf.more (by omega)⟩, Cf, Gf⟩

end Go.Proofs.YtjjniapamdleoaaGreatDoor
