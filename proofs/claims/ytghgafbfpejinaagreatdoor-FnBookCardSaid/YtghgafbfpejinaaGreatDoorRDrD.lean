/- What is drawn: the draws of books. -/
import Derived.Test.YtghgafbfpejinaaGreatDoorRDrC
namespace Go.Proofs.YtghgafbfpejinaaGreatDoor
open Go Go.RowKit

theorem mem4_kivw {G P : (BookD) → (Int) → (Value) → (World) → Prop} {R : Prop} (use : (∀ (x0 : BookD) (x1 : Int) (x2 : Value) (x3 : World), P x0 x1 x2 x3 → G x0 x1 x2 x3) → R) (key : ∀ (x0 : BookD) (x1 : Int) (x2 : Value) (x3 : World), P x0 x1 x2 x3 → G x0 x1 x2 x3) : R := use key
theorem l1Size_bel (A : Option Addr) (n cp : Nat) (hn : n ≤ 9223372036854775000) (m : Int) (w : World) :
  Calls Tryz.prog 26 #[.slice A n cp, .int .i64 m] w fun e w' => ∃ x : Int, e = .returned (.int .i64 x) ∧ x ≤ m ∧ Below w.heap.size w w' :=
 (l1Size_any A n cp hn m w).mono fun _ _ ⟨x, h1, h2, h3⟩ => ⟨x, h1, h2, h3 ▸ bel0 w⟩

set_option maxRecDepth 100000 in
set_option maxHeartbeats 1000000 in
theorem drawBookHome_any (A : Option Addr) (n cp : Nat) (bs : List UInt8) (hn : n ≤ 9223372036854775000) (w : World) (hr : Reads w w.heap.size 1 A n (B8 bs)) :
  Calls Tryz.prog 18 #[.slice A n cp] w fun e w' => ∃ v B, e = .returned v ∧ IsBook w' v B ∧ SzB B ∧ Below w.heap.size w w' := by
 obtain ⟨W1, hW1⟩ : ∃ W, w.alloc (.cells zB_ 28) = W := ⟨_, rfl⟩
 have R1 : Blk W1 w.heap.size 28 zB_ := by rw [← hW1]; exact Blk.new' _ _ _ _ rfl
 have B1 : Below w.heap.size w W1 := by rw [← hW1]; exact belA (bel0 w) _
 have S1 : W1.heap.size = w.heap.size + 1 := by rw [← hW1]; simp
 have HW1 := Lib.hid hW1
 clear hW1
 go_enter Tryz.func18, Tryz.ntmps18
 go_wp2_with fail
 rw [HW1.out]
 refine (l1New_any A n cp bs (by omega) W1 ((hr.below B1).more B1.size)).mono ?_
 rintro e w2 ⟨g, rfl, hg, hc, hb2⟩
 have R2 := R1.below hb2 R1.lt
 have s2 := hb2.size
 have B2 := belN B1 hb2
 clear hr HW1
 go_wp2_with fail
 refine (l1Size_any A n cp hn 30 w2).mono ?_
 rintro e w3 ⟨m, rfl, hm, rfl⟩
 go_wp2_with fail
 refine (l25Some_any g A n cp bs (by omega) m (by omega) w2 hc).mono ?_
 rintro e w5 ⟨v, B, rfl, hO, hsz, hc5, hg5⟩
 obtain ⟨A1, c1, A2, c2, A3, c3, A4, c4, rfl, hrows⟩ := hO
 have HO : Hid (OwnB4 w2.heap.size (.agg #[.slice A1 B.rg.length c1, .slice A2 B.hm.length c2, .slice A3 B.pd.length c3, .slice A4 B.dr.length c4, .int .i64 B.sq, .int .i64 B.bs, .int .i64 B.sf, .int .i64 B.at_, .int .i64 B.df]) B w5) := Lib.hid ⟨A1, c1, A2, c2, A3, c3, A4, c4, rfl, hrows⟩
 have R5 := blk_g R2 hg5 (by omega)
 have B5 := belG B2 hg5 (by omega)
 have s5 := hg5.size
 clear hrows hc hc5 hg5 R1 R2
 obtain ⟨q0, q1, q2, q3, q4, q5, q6, q7, q8⟩ := R5.g9
 obtain ⟨p0, p1, p2, p3, p4, p5, p6, p7, p8⟩ := R5.f9
 have l2 := R5.lt
 go_wp2
 obtain ⟨w9, h9, hB9, s9, hb9, ho9⟩ := put9n w5 w.heap.size 28 (.slice A1 B.rg.length c1) (.slice A2 B.hm.length c2) (.slice A3 B.pd.length c3) (.slice A4 B.dr.length c4) (.int .i64 B.sq) (.int .i64 B.bs) (.int .i64 B.sf) (.int .i64 B.at_) (.int .i64 B.df) (.slice none 0 0) (.slice none 0 0) (.slice none 0 0) (.slice none 0 0) (.int .i64 0) (.int .i64 0) (.int .i64 0) (.int .i64 0) (.int .i64 0) R5
 rw [h9]
 clear h9 l2 q0 q1 q2 q3 q4 q5 q6 q7 q8 p0 p1 p2 p3 p4 p5 p6 p7 p8
 obtain ⟨r0, r1, r2, r3, r4, r5, r6, r7, r8⟩ := hB9.g9
 refine bodyPost_ret (v := .agg #[.slice A1 B.rg.length c1, .slice A2 B.hm.length c2, .slice A3 B.pd.length c3, .slice A4 B.dr.length c4, .int .i64 B.sq, .int .i64 B.bs, .int .i64 B.sf, .int .i64 B.at_, .int .i64 B.df]) (by simp [results, Tryz.results18, go_sem, r0, r1, r2, r3, r4, r5, r6, r7, r8]) rfl ⟨_, B, rfl, (HO.out.same (fun j h1 h2 => ho9 j (by omega))).isBk, hsz, hb9 _ _ (Nat.le_refl _) B5⟩

set_option maxRecDepth 100000 in
set_option maxHeartbeats 1000000 in
theorem drawBookFall_any (A : Option Addr) (n cp : Nat) (bs : List UInt8) (hn : n ≤ 9223372036854775000) (w : World) (hr : Reads w w.heap.size 1 A n (B8 bs)) :
  Calls Tryz.prog 20 #[.slice A n cp] w fun e w' => ∃ v B mk, e = .returned (.tuple #[v, .int .i64 mk]) ∧ 0 ≤ mk ∧ mk ≤ 255 ∧ IsBook w' v B ∧ SzB B ∧ Below w.heap.size w w' := by
 obtain ⟨W1, hW1⟩ : ∃ W, w.alloc (.cells zB_ 28) = W := ⟨_, rfl⟩
 have R1 : Blk W1 w.heap.size 28 zB_ := by rw [← hW1]; exact Blk.new' _ _ _ _ rfl
 have B1 : Below w.heap.size w W1 := by rw [← hW1]; exact belA (bel0 w) _
 have S1 : W1.heap.size = w.heap.size + 1 := by rw [← hW1]; simp
 have HW1 := Lib.hid hW1
 clear hW1
 go_enter Tryz.func20, Tryz.ntmps20
 go_wp2_with fail
 rw [HW1.out]
 refine (l1New_any A n cp bs (by omega) W1 ((hr.below B1).more B1.size)).mono ?_
 rintro e w2 ⟨g, rfl, hg, hc, hb2⟩
 have R2 := R1.below hb2 R1.lt
 have s2 := hb2.size
 have B2 := belN B1 hb2
 clear hr HW1
 go_wp2_with fail
 refine (l1Below_any g A n cp bs (by omega) 256 (by omega) w2 hc).mono ?_
 rintro e w3 ⟨mk, rfl, _, hmk, hc3, hg3⟩
 obtain ⟨hmk0, hmk1⟩ := hmk (by omega)
 have R3 := blk_g R2 hg3 (by omega)
 have s3 := hg3.size
 have B3 := belG B2 hg3 (by omega)
 clear hc hg3 R2 hmk
 go_wp2_with fail
 refine (l1Size_any A n cp hn 40 w3).mono ?_
 rintro e w4 ⟨m, rfl, hm, rfl⟩
 go_wp2_with fail
 refine (l25Some_any g A n cp bs (by omega) m (by omega) w3 hc3).mono ?_
 rintro e w5 ⟨v, B, rfl, hO, hsz, hc5, hg5⟩
 obtain ⟨A1, c1, A2, c2, A3, c3, A4, c4, rfl, hrows⟩ := hO
 have HO : Hid (OwnB4 w3.heap.size (.agg #[.slice A1 B.rg.length c1, .slice A2 B.hm.length c2, .slice A3 B.pd.length c3, .slice A4 B.dr.length c4, .int .i64 B.sq, .int .i64 B.bs, .int .i64 B.sf, .int .i64 B.at_, .int .i64 B.df]) B w5) := Lib.hid ⟨A1, c1, A2, c2, A3, c3, A4, c4, rfl, hrows⟩
 have R5 := blk_g R3 hg5 (by omega)
 have B5 := belG B3 hg5 (by omega)
 have s5 := hg5.size
 clear hrows hc3 hc5 hg5 R1 R3
 obtain ⟨q0, q1, q2, q3, q4, q5, q6, q7, q8⟩ := R5.g9
 obtain ⟨p0, p1, p2, p3, p4, p5, p6, p7, p8⟩ := R5.f9
 have l2 := R5.lt
 go_wp2
 obtain ⟨w9, h9, hB9, s9, hb9, ho9⟩ := put9n w5 w.heap.size 28 (.slice A1 B.rg.length c1) (.slice A2 B.hm.length c2) (.slice A3 B.pd.length c3) (.slice A4 B.dr.length c4) (.int .i64 B.sq) (.int .i64 B.bs) (.int .i64 B.sf) (.int .i64 B.at_) (.int .i64 B.df) (.slice none 0 0) (.slice none 0 0) (.slice none 0 0) (.slice none 0 0) (.int .i64 0) (.int .i64 0) (.int .i64 0) (.int .i64 0) (.int .i64 0) R5
 rw [h9]
 clear h9 l2 q0 q1 q2 q3 q4 q5 q6 q7 q8 p0 p1 p2 p3 p4 p5 p6 p7 p8
 obtain ⟨r0, r1, r2, r3, r4, r5, r6, r7, r8⟩ := hB9.g9
 refine bodyPost_ret (v := .tuple #[.agg #[.slice A1 B.rg.length c1, .slice A2 B.hm.length c2, .slice A3 B.pd.length c3, .slice A4 B.dr.length c4, .int .i64 B.sq, .int .i64 B.bs, .int .i64 B.sf, .int .i64 B.at_, .int .i64 B.df], .int .i64 mk]) (by simp [results, Tryz.results20, go_sem, r0, r1, r2, r3, r4, r5, r6, r7, r8]) rfl ⟨_, B, mk, rfl, hmk0, by omega, (HO.out.same (fun j h1 h2 => ho9 j (by omega))).isBk, hsz, hb9 _ _ (Nat.le_refl _) B5⟩

set_option maxRecDepth 100000 in
set_option maxHeartbeats 1000000 in
theorem drawBookDo_any (A : Option Addr) (n cp : Nat) (bs : List UInt8) (hn : n ≤ 9223372036854775000) (w : World) (hr : Reads w w.heap.size 1 A n (B8 bs)) :
  Calls Tryz.prog 7 #[.slice A n cp] w fun e w' => ∃ v B k s i, e = .returned (.tuple #[v, .agg #[.int .i64 k, .string s, .int .i64 i]]) ∧ s.size ≤ 25 ∧ IsBook w' v B ∧ SzB B ∧ Below w.heap.size w w' := by
 obtain ⟨W1, hW1⟩ : ∃ W, (w.alloc (.cells zB_ 28)).alloc (.cells #[.int .i64 0, .string ⟨#[]⟩, .int .i64 0] 32) = W := ⟨_, rfl⟩
 have R1 : Blk W1 w.heap.size 28 zB_ := by rw [← hW1]; exact (Blk.new' _ _ _ _ rfl).alloc _
 have Q1 : Blk W1 (w.heap.size + 1) 32 #[.int .i64 0, .string ⟨#[]⟩, .int .i64 0] := by rw [← hW1]; exact Blk.new' _ _ _ _ (by simp)
 have B1 : Below w.heap.size w W1 := by rw [← hW1]; exact belA (belA (bel0 w) _) _
 have S1 : W1.heap.size = w.heap.size + 2 := by rw [← hW1]; simp
 have HW1 := Lib.hid hW1
 clear hW1
 go_enter Tryz.func7, Tryz.ntmps7
 go_wp2_with fail
 rw [HW1.out]
 refine (l1New_any A n cp bs (by omega) W1 ((hr.below B1).more B1.size)).mono ?_
 rintro e w2 ⟨g, rfl, hg, hc, hb2⟩
 have R2 := R1.below hb2 R1.lt
 have Q2 := Q1.below hb2 Q1.lt
 have s2 := hb2.size
 have B2 := belN B1 hb2
 clear hr HW1
 go_wp2_with fail
 refine (l25Op_any g A n cp bs (by omega) w2 hc).mono ?_
 rintro e w3 ⟨k, s, i, rfl, hs, hc3, hg3⟩
 have R3 := blk_g R2 hg3 (by omega)
 have Q3 := blk_g Q2 hg3 (by omega)
 have s3 := hg3.size
 have B3 := belG B2 hg3 (by omega)
 clear hc hg3 R2 Q2 R1 Q1
 obtain ⟨W4, hW4⟩ : ∃ W, w3.alloc (.cells #[.int .i64 k, .string s, .int .i64 i] 32) = W := ⟨_, rfl⟩
 obtain ⟨O, hO0⟩ : ∃ O, w3.heap.size = O := ⟨_, rfl⟩
 have O4 : Blk W4 O 32 #[.int .i64 k, .string s, .int .i64 i] := by rw [← hW4, ← hO0]; exact Blk.new' _ _ _ _ rfl
 have R4 : Blk W4 w.heap.size 28 zB_ := by rw [← hW4]; exact R3.alloc _
 have Q4 : Blk W4 (w.heap.size + 1) 32 #[.int .i64 0, .string ⟨#[]⟩, .int .i64 0] := by rw [← hW4]; exact Q3.alloc _
 have C4 : Curs W4 g A n cp bs := by rw [← hW4]; exact hc3.alloc _
 have B4 : Below w.heap.size w W4 := by rw [← hW4]; exact belA B3 _
 have s4 : W4.heap.size = O + 1 := by rw [← hW4, ← hO0]; simp
 have glt := hc3.lt
 have HW4 := Lib.hid hW4
 have HO0 := Lib.hid hO0
 have hOge : w3.heap.size ≤ O := by omega
 clear hW4 hO0 R3 Q3 hc3
 go_upto_region 3 with fail
 rw [HW4.out, HO0.out]
 clear HW4 HO0
 refine wp_region_held_drew (S := fun w' => w'.cell? ⟨O, 0, none⟩ = some (.int .i64 k) ∧ w'.cell? ⟨O, 1, none⟩ = some (.string s) ∧ w'.cell? ⟨O, 2, none⟩ = some (.int .i64 i)) (by kernel_rfl) (by exact O4.g3) (fun hHeld => ?_)
 clear hHeld
 refine foldH ?_
 intro r hr0
 have bw : W4.grownBy r (some g) := by rw [hr0]; exact gb_below (grown_refl _ _) (bel0 W4).drew
 have kO : Blk r O 32 #[.int .i64 k, .string s, .int .i64 i] := by rw [hr0]; exact O4.drew
 have kR : Blk r w.heap.size 28 zB_ := by rw [hr0]; exact R4.drew
 have kQ : Blk r (w.heap.size + 1) 32 #[.int .i64 0, .string ⟨#[]⟩, .int .i64 0] := by rw [hr0]; exact Q4.drew
 have pC : Curs r g A n cp bs := by rw [hr0]; exact C4.drew'
 clear hr0
 apply mem4_kivw (P := fun B' mz v' q => W4.grownBy q (some g) ∧ Blk q O 32 #[.int .i64 k, .string s, .int .i64 i] ∧ Blk q (w.heap.size + 1) 32 #[.int .i64 0, .string ⟨#[]⟩, .int .i64 0] ∧ Blk q w.heap.size 28 zB_ ∧ Curs q g A n cp bs ∧ OwnB4 W4.heap.size v' B' q ∧ mz ≤ 30 ∧ SzB B')
 case use =>
  intro key_dd_2_3
  apply mem4_iw (P := fun mz q => W4.grownBy q (some g) ∧ Blk q O 32 #[.int .i64 k, .string s, .int .i64 i] ∧ Blk q (w.heap.size + 1) 32 #[.int .i64 0, .string ⟨#[]⟩, .int .i64 0] ∧ Blk q w.heap.size 28 zB_ ∧ Curs q g A n cp bs ∧ mz ≤ 30)
  case use =>
   intro key_dd_2
   refine tkV_ 0 (v := ?v9001) ?hy9001 ?hS9001 ?hr9001
   case hS9001 => exact kO.g3
   case hy9001 => refine Or.inl ⟨by rfl, ?_⟩; intro w hSw; (try dsimp only at hSw); go_simp; (try with_reducible rfl)
   simp only [Act.put, pT_, pZ_, pS_]
   refine tkV_ 1 (v := ?v9002) ?hy9002 ?hS9002 ?hr9002
   case hS9002 => exact kO.g3
   case hy9002 => refine Or.inl ⟨by rfl, ?_⟩; intro w hSw; (try dsimp only at hSw); go_simp; (try with_reducible rfl)
   simp only [Act.put, pT_, pZ_, pS_]
   refine tkV_ 4 (v := ?v9003) ?hy9003 ?hS9003 ?hr9003
   case hS9003 => exact kO.g3
   case hy9003 => refine Or.inl ⟨by rfl, ?_⟩; intro w hSw; (try dsimp only at hSw); go_simp; (try with_reducible rfl)
   simp only [Act.put, pT_, pZ_, pS_]
   refine wpAnyH_ready (rs := [2]) (by kernel_rfl) (by simp) ?_
   refine AllReadyH.cons (o := ?oi9004) ?hi9004 (fun K hK => ?br9004) AllReadyH.nil
   case hi9004 => (conv => lhs; simp only [gT_, gZ_, gS_]); try exact rfl
   case br9004 =>
    go_simp
    go_at_call 26
    refine (l1Size_bel A n cp hn 30 _).mono ?_
    rintro e q ⟨mz, rfl, hmz, hb⟩
    have bw2 := gb_below bw hb
    have kO2 := kO.below hb kO.lt
    have kR2 := kR.below hb kR.lt
    have kQ2 := kQ.below hb kQ.lt
    have pC2 : Curs q g A n cp bs := pC.below hb
    have hmz2 : mz ≤ 30 := hmz
    refine hK.out _ _ (by exact kO2.g3) (fun _ => ?_)
    clear hK K
    try simp only [Act.put, pT_, pZ_, pS_]
    exact key_dd_2 mz q ⟨bw2, kO2, kQ2, kR2, pC2, hmz2⟩
  case key =>
   rintro mz r ⟨bw, kO, kQ, kR, pC, hmz2⟩
   try dsimp only
   refine wpAnyH_ready (rs := [3]) (by kernel_rfl) (by simp) ?_
   refine AllReadyH.cons (o := ?oi9005) ?hi9005 (fun K hK => ?br9005) AllReadyH.nil
   case hi9005 => (conv => lhs; simp only [gT_, gZ_, gS_]); try exact rfl
   case br9005 =>
    go_simp
    go_at_call 25
    refine (l25Some_any g A n cp bs (by omega) mz (by omega) _ pC).mono ?_
    rintro e q ⟨v', B', rfl, hO', hsz', hcG, hg⟩
    have bw2 := bw.trans hg
    have kO2 := blk_g kO hg (by omega)
    have kR2 := blk_g kR hg (by omega)
    have kQ2 := blk_g kQ hg (by omega)
    have pC2 : Curs q g A n cp bs := hcG
    have pJ2 : OwnB4 W4.heap.size v' B' q := hO'.mono bw.size
    have hsz2 : SzB B' := hsz'
    refine hK.out _ _ (by exact kO2.g3) (fun _ => ?_)
    clear hK K
    try simp only [Act.put, pT_, pZ_, pS_]
    exact key_dd_2_3 B' mz v' q ⟨bw2, kO2, kQ2, kR2, pC2, pJ2, hmz2, hsz2⟩
 case key =>
  rintro B' mz v' r ⟨bw, kO, kQ, kR, pC, pJ, hmz2, hsz2⟩
  try dsimp only
  refine wpAnyH_ready (rs := [5]) (by kernel_rfl) (by simp) ?_
  refine AllReadyH.cons (o := ?oi9006) ?hi9006 (fun K hK => ?br9006) AllReadyH.nil
  case hi9006 => (conv => lhs; simp only [gT_, gZ_, gS_]); try exact rfl
  case br9006 =>
   obtain ⟨A1, c1, A2, c2, A3, c3, A4, c4, rfl, hrows⟩ := pJ
   obtain ⟨B, hBB⟩ : ∃ B, B = B' := ⟨_, rfl⟩
   subst hBB
   have HO : Hid (OwnB4 W4.heap.size (.agg #[.slice A1 B.rg.length c1, .slice A2 B.hm.length c2, .slice A3 B.pd.length c3, .slice A4 B.dr.length c4, .int .i64 B.sq, .int .i64 B.bs, .int .i64 B.sf, .int .i64 B.at_, .int .i64 B.df]) B r) := Lib.hid ⟨A1, c1, A2, c2, A3, c3, A4, c4, rfl, hrows⟩
   clear hrows
   have x_0 := kR.get (x := .slice none 0 0) 0 rfl
   have x_1 := kR.get (x := .slice none 0 0) 1 rfl
   have x_2 := kR.get (x := .slice none 0 0) 2 rfl
   have x_3 := kR.get (x := .slice none 0 0) 3 rfl
   have x_4 := kR.get (x := .int .i64 0) 4 rfl
   have x_5 := kR.get (x := .int .i64 0) 5 rfl
   have x_6 := kR.get (x := .int .i64 0) 6 rfl
   have x_7 := kR.get (x := .int .i64 0) 7 rfl
   have x_8 := kR.get (x := .int .i64 0) 8 rfl
   obtain ⟨f_0, f_1, f_2, f_3, f_4, f_5, f_6, f_7, f_8⟩ := kR.f9
   have lE := kR.lt
   have zr := bw.size
   obtain ⟨w9, h9, hB9, s9, hb9, ho9⟩ := put9n r w.heap.size 28 (.slice A1 B.rg.length c1) (.slice A2 B.hm.length c2) (.slice A3 B.pd.length c3) (.slice A4 B.dr.length c4) (.int .i64 B.sq) (.int .i64 B.bs) (.int .i64 B.sf) (.int .i64 B.at_) (.int .i64 B.df) (.slice none 0 0) (.slice none 0 0) (.slice none 0 0) (.slice none 0 0) (.int .i64 0) (.int .i64 0) (.int .i64 0) (.int .i64 0) (.int .i64 0) kR
   have O9 := kO.eqN (ho9 _ (by omega))
   have Q9 := kQ.eqN (ho9 _ (by omega))
   have b9 : Below w.heap.size w w9 := hb9 _ _ (Nat.le_refl _) (belG B4 bw (by omega))
   go_simp
   refine hK.out _ _ (by first | exact O9.g3 | (rw [h9]; exact O9.g3)) (fun _ => ?_)
   clear hK K
   try simp only [Act.put, pT_, pZ_, pS_]
   try rw [h9]
   clear h9 hb9 lE kR kQ kO pC bw x_0 x_1 x_2 x_3 x_4 x_5 x_6 x_7 x_8 f_0 f_1 f_2 f_3 f_4 f_5 f_6 f_7 f_8
   refine wpAnyH_ready (rs := [6]) (by kernel_rfl) (by simp) ?_
   refine AllReadyH.cons (o := ?oi9007) ?hi9007 (fun K hK => ?br9007) AllReadyH.nil
   case hi9007 => (conv => lhs; simp only [gT_, gZ_, gS_]); try exact rfl
   case br9007 =>
    have x_0 := Q9.get (x := .int .i64 0) 0 rfl
    have x_1 := Q9.get (x := .string ⟨#[]⟩) 1 rfl
    have x_2 := Q9.get (x := .int .i64 0) 2 rfl
    obtain ⟨f_0, f_1, f_2⟩ := Q9.f3
    have lE := Q9.lt
    obtain ⟨Z, hZ⟩ : ∃ Z, (((w9.setCell ⟨w.heap.size + 1, 0, none⟩ (.int .i64 k)).setCell ⟨w.heap.size + 1, 1, none⟩ (.string s)).setCell ⟨w.heap.size + 1, 2, none⟩ (.int .i64 i)) = Z := ⟨_, rfl⟩
    have QZ : Blk Z (w.heap.size + 1) 32 #[.int .i64 k, .string s, .int .i64 i] := by rw [← hZ]; exact ((Q9.put 0 (.int .i64 k) #[.int .i64 k, .string ⟨#[]⟩, .int .i64 0] rfl).put 1 (.string s) #[.int .i64 k, .string s, .int .i64 0] rfl).put 2 (.int .i64 i) #[.int .i64 k, .string s, .int .i64 i] rfl
    have heZ : ∀ j, j ≠ w.heap.size + 1 → Z.heap[j]? = w9.heap[j]? := fun j hj => by rw [← hZ]; exact (Below.heap_setCell _ ⟨w.heap.size + 1, 2, none⟩ _ j hj).trans ((Below.heap_setCell _ ⟨w.heap.size + 1, 1, none⟩ _ j hj).trans (Below.heap_setCell _ ⟨w.heap.size + 1, 0, none⟩ _ j hj))
    have RZ := hB9.eqN (heZ _ (by omega))
    have OZ := O9.eqN (heZ _ (by omega))
    have sZ : Z.heap.size = w9.heap.size := by rw [← hZ]; simp
    have bZ : Below w.heap.size w Z := by rw [← hZ]; exact ((b9.setCell (p := ⟨w.heap.size + 1, 0, none⟩) (by show w.heap.size ≤ w.heap.size + 1; omega) _).setCell (p := ⟨w.heap.size + 1, 1, none⟩) (by show w.heap.size ≤ w.heap.size + 1; omega) _).setCell (p := ⟨w.heap.size + 1, 2, none⟩) (by show w.heap.size ≤ w.heap.size + 1; omega) _
    go_simp
    refine hK.out _ _ (by first | exact OZ.g3 | (rw [hZ]; exact OZ.g3)) (fun _ => ?_)
    clear hK K
    try simp only [Act.put, pT_, pZ_, pS_]
    refine wpAnyH_done (by kernel_rfl) ?_ _
    try rw [hZ]
    clear hZ x_0 x_1 x_2 f_0 f_1 f_2 lE
    obtain ⟨r0, r1, r2, r3, r4, r5, r6, r7, r8⟩ := RZ.g9
    obtain ⟨t0, t1, t2⟩ := QZ.g3
    go_wp2
    refine bodyPost_ret (v := .tuple #[.agg #[.slice A1 B.rg.length c1, .slice A2 B.hm.length c2, .slice A3 B.pd.length c3, .slice A4 B.dr.length c4, .int .i64 B.sq, .int .i64 B.bs, .int .i64 B.sf, .int .i64 B.at_, .int .i64 B.df], .agg #[.int .i64 k, .string s, .int .i64 i]]) (by simp [results, Tryz.results7, go_sem, r0, r1, r2, r3, r4, r5, r6, r7, r8, t0, t1, t2]) rfl ⟨_, B, k, s, i, rfl, hs, (HO.out.same (fun j h1 h2 => (heZ j (by omega)).trans (ho9 j (by omega)))).isBk, hsz2, bZ⟩

end Go.Proofs.YtghgafbfpejinaaGreatDoor
