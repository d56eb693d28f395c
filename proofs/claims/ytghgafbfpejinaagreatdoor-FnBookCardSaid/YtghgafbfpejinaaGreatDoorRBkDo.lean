/- A change of a book, in both packages. -/
import Derived.Test.YtghgafbfpejinaaGreatDoorRBkP
import Derived.Test.YtghgafbfpejinaaGreatDoorRRegH
import Derived.Test.YtghgafbfpejinaaGreatDoorROp2
namespace Go.Proofs.YtghgafbfpejinaaGreatDoor
open Go Go.RowKit

theorem mem3_w {G P : (World) → Prop} {R : Prop} (use : (∀ (x0 : World), P x0 → G x0) → R) (key : ∀ (x0 : World), P x0 → G x0) : R := use key
theorem mem3_nw {G P : (Nat) → (World) → Prop} {R : Prop} (use : (∀ (x0 : Nat) (x1 : World), P x0 x1 → G x0 x1) → R) (key : ∀ (x0 : Nat) (x1 : World), P x0 x1 → G x0 x1) : R := use key
theorem own_lit2 (w : World) (a b : Value) (e : TypeId) (base : Nat) (hb : base ≤ w.heap.size) : (w.alloc (.cells #[a, b] e)).ownsRow base e 2 (.slice (some ⟨w.heap.size, 0, none⟩) 1 1) 1 [a, b] :=
 own_more (World.ownsRow_lit (e := e) (size := 2) w #[a, b] 1 (Nat.le_refl _) (by unfold maxLen; omega) rfl) hb
section
variable {P : Program} (w : World)
/-- append at a step of a drawn region. -/
theorem step_appY {ops : Array Oper} {o : Oper} {a : Act} {K : Act → World → Prop} {Q : Exit → Act → World → Prop} {E : Prop} (hgd : o.guard = none) (s x : Operand) (t : TypeId)
  (ho : o.op = .call { callee := .builtin .append, args := #[s, x], argTypes := #[t, t] })
  {e : TypeId} {z : Value} {size bytes : Nat} (hE : ElemOk P t e z size bytes)
  {base : Nat} {v : Value} {n : Nat} {xs : List Value} (hown : w.ownsRow base e size v n xs) (hs : a.eval s = v)
  {B : Nat} {A : Option Addr} {m c : Nat} {news : List Value} (hr : Reads w B size A m news) (hx : a.eval x = .slice A m c) (h1 : ∀ u ∈ news, u.oneCell' = true)
  (h63 : n + m ≤ maxLen) (hbytes : (n + m) * bytes ≤ 140737488355328) (hbase : base ≤ w.heap.size)
  (h : ∀ v' w', w'.ownsRow base e size v' (n + m) (xs ++ news) → w.grownBy w' v.ownBlock → (v'.ownBlock = v.ownBlock ∨ v'.ownBlock = some w.heap.size) → Below base w w' → K (a.put o.dst v') w') :
  if Region.wanted o (yielded ops a.tmps) = true then Oper.wp P o a w K Q else E := by
 obtain ⟨i, hi, hz, hsize, hby⟩ := info_parts hE.hi
 exact step_append_any w hgd s x t ho base e i z size bytes hE.ht hi hz hsize hby hE.hzs hE.hsz v n xs hs hown B A m c news hx hr h1 h63 hbytes hbase fun v' w' h2 h3 h4 => h v' w' h2 h3 h4 (below_grownBy hown h3 hbase)
end
theorem own_keepN {w w' : World} {base n size : Nat} {e : TypeId} {v u : Value} {xs : List Value} (h : w.ownsRow base e size v n xs) (hg : w.grownBy w' u.ownBlock) (hd : Dis v u) : w'.ownsRow base e size v n xs :=
 h.kept hg hd.l
theorem blk_ne_own {w : World} {b base n size : Nat} {t e : TypeId} {cs : Array Value} {v : Value} {xs : List Value} (_h : Blk w b t cs) (hv : w.ownsRow base e size v n xs) (hb : b < base) : (some b : Option Nat) ≠ v.ownBlock := by
 intro he
 have := (hv.lt b he.symm).1
 omega
theorem own_bk_more {lo lo' : Nat} {v : Value} {B : BookD} {w : World} (h : OwnBk lo v B w) (hl : lo' ≤ lo) : OwnBk lo' v B w := by
 obtain ⟨v1, v2, v3, v4, h0, o1, o2, o3, o4, d⟩ := h
 exact ⟨v1, v2, v3, v4, h0, own_more o1 hl, own_more o2 hl, own_more o3 hl, own_more o4 hl, d⟩
theorem is_dr {w : World} {B : BookD} {A1 A2 A3 A4 : Option Addr} {c1 c2 c3 c4 : Nat} (h : IsBook w (.agg #[.slice A1 B.rg.length c1, .slice A2 B.hm.length c2, .slice A3 B.pd.length c3, .slice A4 B.dr.length c4, .int .i64 B.sq, .int .i64 B.bs, .int .i64 B.sf, .int .i64 B.at_, .int .i64 B.df]) B) : IsS w (.slice A4 B.dr.length c4) B.dr := by
 obtain ⟨_, _, _, _, _, _, A4', c4', e, _, _, _, h4⟩ := h
 simp only [Value.agg.injEq, Array.mk.injEq, List.cons.injEq, Value.slice.injEq] at e
 obtain ⟨_, _, _, ⟨rfl, _, rfl⟩, _⟩ := e
 exact ⟨A4, c4, rfl, h4⟩
theorem dis_new {u v v' : Value} {n m : Nat} (hd : Dis u v) (hu : ∀ k, u.ownBlock = some k → k < n) (hm : n ≤ m) (hor : v'.ownBlock = v.ownBlock ∨ v'.ownBlock = some m) : Dis u v' := by
 unfold Dis at hd ⊢
 rcases hor with h | h
 ·rw [h]; exact hd
 ·rcases hk : u.ownBlock with _ | k
  ·exact .inl rfl
  ·have := hu k hk
   refine .inr (.inr ?_)
   rw [h]
   intro e
   injection e with e
   omega
theorem do_own {lo g1 e1 g2 e2 gv cv : Nat} {v4 : Value} {L : List EntD} {B : BookD} {x : Int} {t : ByteArray} {w : World} (h1 : B.rg.length = 6) (h2 : B.hm.length = 2)
  (p1 : w.ownsRow lo 9 1 (.slice (some ⟨g1, 0, none⟩) 6 e1) 6 (SS B.rg)) (p2 : w.ownsRow lo 9 1 (.slice (some ⟨g2, 0, none⟩) 2 e2) 2 (SS B.hm)) (p3 : w.ownsRow lo 55 2 (.slice (some ⟨gv, 0, none⟩) (B.pd.length + 1) cv) (B.pd.length + 1) (RS B.pd ++ RS [(x, t)])) (p4 : w.ownsRow lo 66 4 v4 L.length (ES L))
  (d12 : Dis (.slice (some ⟨g1, 0, none⟩) 6 e1) (.slice (some ⟨g2, 0, none⟩) 2 e2)) (d13 : Dis (.slice (some ⟨g1, 0, none⟩) 6 e1) (.slice (some ⟨gv, 0, none⟩) (B.pd.length + 1) cv)) (d14 : Dis (.slice (some ⟨g1, 0, none⟩) 6 e1) v4) (d23 : Dis (.slice (some ⟨g2, 0, none⟩) 2 e2) (.slice (some ⟨gv, 0, none⟩) (B.pd.length + 1) cv)) (d24 : Dis (.slice (some ⟨g2, 0, none⟩) 2 e2) v4) (d34 : Dis (.slice (some ⟨gv, 0, none⟩) (B.pd.length + 1) cv) v4) :
  OwnBk lo (.agg #[.slice (some ⟨g1, 0, none⟩) 6 e1, .slice (some ⟨g2, 0, none⟩) 2 e2, .slice (some ⟨gv, 0, none⟩) (B.pd.length + 1) cv, v4, .int .i64 (B.sq + 1), .int .i64 B.bs, .int .i64 B.sf, .int .i64 B.at_, .int .i64 B.df]) ⟨B.rg, B.hm, B.pd ++ [(x, t)], L, B.sq + 1, B.bs, B.sf, B.at_, B.df⟩ w := by
 obtain ⟨A4, c4, rfl, _⟩ := own_vals p4
 have hl : (B.pd ++ [(x, t)]).length = B.pd.length + 1 := by simp
 refine ⟨.slice (some ⟨g1, 0, none⟩) 6 e1, .slice (some ⟨g2, 0, none⟩) 2 e2, .slice (some ⟨gv, 0, none⟩) (B.pd.length + 1) cv, .slice A4 L.length c4, ⟨some ⟨g1, 0, none⟩, e1, some ⟨g2, 0, none⟩, e2, some ⟨gv, 0, none⟩, cv, A4, c4, ?_, ?_, ?_, rfl, ?_⟩, ?_, ?_, ?_, p4, d12, d13, d14, d23, d24, d34⟩
 ·simp only [h1]
 ·simp only [h2]
 ·simp only [hl]
 ·rfl
 ·simp only [h1]; exact p1
 ·simp only [h2]; exact p2
 ·simp only [hl, RS_append]; exact p3

set_option maxRecDepth 100000 in
set_option maxHeartbeats 8000000 in
theorem bookDo_impl0 (v : Value) (B : BookD) (sm : szBk B ≤ 1048576) (k : Int) (s : ByteArray) (i : Int) (hs : s.size ≤ 2000000) (w : World) (hT : Tab w) (h : IsBook w v B) :
  Calls Tryz.prog 14 #[v, .agg #[.int .i64 k, .string s, .int .i64 i]] w fun e w' => FlPost w (doBk B k s i) e w' ∧ Below w.heap.size w w' := by
 obtain ⟨A1, c1, A2, c2, A3, c3, A4, c4, rfl, h⟩ := h
 have HT := Lib.hid hT
 clear hT
 have H := Lib.hid h
 clear h
 obtain ⟨W1, hW1⟩ : ∃ W, ((w.alloc (.cells #[.slice A1 B.rg.length c1, .slice A2 B.hm.length c2, .slice A3 B.pd.length c3, .slice A4 B.dr.length c4, .int .i64 B.sq, .int .i64 B.bs, .int .i64 B.sf, .int .i64 B.at_, .int .i64 B.df] 28)).alloc (.cells #[.int .i64 k, .string s, .int .i64 i] 32)).alloc (.cells zB_ 28) = W := ⟨_, rfl⟩
 have B1 : Below w.heap.size w W1 := by rw [← hW1]; exact belA (belA (belA (bel0 w) _) _) _
 have S1 : W1.heap.size = w.heap.size + 3 := by rw [← hW1]; simp
 have V1 := Lib.hid (show Blk W1 w.heap.size 28 #[.slice A1 B.rg.length c1, .slice A2 B.hm.length c2, .slice A3 B.pd.length c3, .slice A4 B.dr.length c4, .int .i64 B.sq, .int .i64 B.bs, .int .i64 B.sf, .int .i64 B.at_, .int .i64 B.df] by rw [← hW1]; exact ((Blk.new' _ _ _ _ rfl).alloc _).alloc _)
 have Q1 := Lib.hid (show Blk W1 (w.heap.size + 1) 32 #[.int .i64 k, .string s, .int .i64 i] by rw [← hW1]; exact (Blk.new' _ _ _ _ (by simp)).alloc _)
 have R1 := Lib.hid (show Blk W1 (w.heap.size + 2) 28 zB_ by rw [← hW1]; exact Blk.new' _ _ _ _ (by simp))
 have HW1 := Lib.hid hW1
 clear hW1
 have Hb1 := Lib.hid (show IsBook W1 (.agg #[.slice A1 B.rg.length c1, .slice A2 B.hm.length c2, .slice A3 B.pd.length c3, .slice A4 B.dr.length c4, .int .i64 B.sq, .int .i64 B.bs, .int .i64 B.sf, .int .i64 B.at_, .int .i64 B.df]) B from ⟨_, _, _, _, _, _, _, _, rfl, H.out.next B1⟩)
 go_enter Tryz.func14, Tryz.ntmps14
 go_wp2_with fail
 rw [HW1.out]
 refine (bookOk_impl _ B sm W1 (HT.out.bl B1) Hb1.out).mono ?_
 rintro e w1 ⟨rfl, hb1⟩
 have B2 := belN B1 hb1
 have s1 := hb1.size
 have V2 := Lib.hid (V1.out.below hb1 V1.out.lt)
 have Q2 := Lib.hid (Q1.out.below hb1 Q1.out.lt)
 have R2 := Lib.hid (R1.out.below hb1 R1.out.lt)
 have Hb2 := Lib.hid (Hb1.out.next hb1)
 clear V1 Q1 R1 Hb1
 rcases hok : bookOkB B with _ | _
 ·have Hf := Lib.hid (doBk_bad (k := k) (s := s) (i := i) hok)
  clear hok
  obtain ⟨q0, q1, q2, q3, q4, q5, q6, q7, q8⟩ := R2.out.g9
  obtain ⟨p0, p1, p2, p3, p4, p5, p6, p7, p8⟩ := R2.out.f9
  have l2 := R2.out.lt
  go_wp2
  obtain ⟨w9, h9, hB9, s9, hb9, ho9⟩ := put9 w1 (w.heap.size + 2) 28 (.slice none 0 0) (.slice none 0 0) (.slice none 0 0) (.slice none 0 0) (.int .i64 0) (.int .i64 0) (.int .i64 0) (.int .i64 0) (.int .i64 0) (.slice none 0 0) (.slice none 0 0) (.slice none 0 0) (.slice none 0 0) (.int .i64 0) (.int .i64 0) (.int .i64 0) (.int .i64 0) (.int .i64 0) R2.out
  rw [h9]
  clear h9 l2 q0 q1 q2 q3 q4 q5 q6 q7 q8 p0 p1 p2 p3 p4 p5 p6 p7 p8
  obtain ⟨r0, r1, r2, r3, r4, r5, r6, r7, r8⟩ := hB9.g9
  refine bodyPost_ret (v := .tuple #[.agg zB_, .bool false]) (by simp [results, Tryz.results14, go_sem, r0, r1, r2, r3, r4, r5, r6, r7, r8]) rfl ⟨⟨zeroBk, false, _, Hf.out, rfl, zero_own _ _⟩, hb9 _ _ (by omega) B2⟩
 have HP := Lib.hid (bk_is hok)
 have Hok := Lib.hid hok
 clear hok
 have h6 := HP.out.r
 have h2 := HP.out.h
 have hq := HP.out.q
 have hd := dir12 HP.out.d
 have Hlen := Lib.hid (show B.rg.length ≤ 100000 ∧ B.hm.length ≤ 100000 ∧ B.pd.length ≤ 100000 ∧ B.dr.length ≤ 100000 by omega)
 have H6 := Lib.hid h6
 have H2 := Lib.hid h2
 have hpn : B.pd.length ≤ 20 := hq
 have hbs := inI_t.1 HP.out.b
 have hf1 := HP.out.f
 have hm1 := HP.out.m
 have hs6 := HP.out.s
 have hdn : B.dr.length ≤ 12 := hd
 clear h6 h2 hq hd
 obtain ⟨x0, x1, x2, x3, x4, x5, x6, x7, x8⟩ := V2.out.g9
 have l1 := V2.out.lt
 go_wp2_with fail
 clear l1 x0 x1 x2 x3 x4 x5 x6 x7 x8
 refine (copyBook_impl _ B Hlen.out w1 Hb2.out).mono ?_
 rintro e w2 ⟨v', rfl, hO, hb2⟩
 have HIn := Lib.hid (own_bk_in hO)
 obtain ⟨_, _, _, _, ⟨F1, e1, F2, e2, A3', c3', A4', c4', rfl, rfl, rfl, rfl, rfl⟩, o1, o2, o3, o4, d12, d13, d14, d23, d24, d34⟩ := hO
 obtain ⟨g1, k1, he⟩ := own_form1 o1 (by have := H6.out; omega)
 simp only [Value.slice.injEq] at he
 obtain ⟨rfl, _, rfl⟩ := he
 obtain ⟨g2, k2, he⟩ := own_form1 o2 (by have := H2.out; omega)
 simp only [Value.slice.injEq] at he
 obtain ⟨rfl, _, rfl⟩ := he
 rw [H6.out] at o1 d12 d13 HIn ⊢
 rw [H2.out] at o2 d12 d23 HIn ⊢
 have B3 := belN B2 hb2
 have s2 := hb2.size
 have R3 := Lib.hid (R2.out.below hb2 R2.out.lt)
 have Q3 := Lib.hid (Q2.out.below hb2 Q2.out.lt)
 have V3 := Lib.hid (V2.out.below hb2 V2.out.lt)
 have Hb3 := Lib.hid (Hb2.out.next hb2)
 have lr := R2.out.lt
 clear R2 V2 Q2 Hb2
 have O1 := Lib.hid o1
 have O2 := Lib.hid o2
 have O3 := Lib.hid o3
 have O4 := Lib.hid o4
 have DD := Lib.hid (show _ ∧ _ ∧ _ from ⟨d12, d13, d23⟩)
 clear o1 o2 o3 o4 d12 d13 d14 d23 d24 d34
 obtain ⟨W3, hW3⟩ : ∃ W, w2.alloc (.cells #[.slice (some ⟨g1, 0, none⟩) 6 e1, .slice (some ⟨g2, 0, none⟩) 2 e2, .slice A3' B.pd.length c3', .slice A4' B.dr.length c4', .int .i64 B.sq, .int .i64 B.bs, .int .i64 B.sf, .int .i64 B.at_, .int .i64 B.df] 28) = W := ⟨_, rfl⟩
 have hb3 : Below w2.heap.size w2 W3 := by rw [← hW3]; exact belA (bel0 _) _
 have hG := Lib.hid (show Blk W3 w2.heap.size 28 #[.slice (some ⟨g1, 0, none⟩) 6 e1, .slice (some ⟨g2, 0, none⟩) 2 e2, .slice A3' B.pd.length c3', .slice A4' B.dr.length c4', .int .i64 B.sq, .int .i64 B.bs, .int .i64 B.sf, .int .i64 B.at_, .int .i64 B.df] by rw [← hW3]; exact Blk.new' _ _ _ _ rfl)
 have s3 : W3.heap.size = w2.heap.size + 1 := by rw [← hW3]; simp
 have P1 := Lib.hid (own_below O1.out hb3 (Nat.le_refl _))
 have P2 := Lib.hid (own_below O2.out hb3 (Nat.le_refl _))
 have P3 := Lib.hid (own_below O3.out hb3 (Nat.le_refl _))
 have NG1 := Lib.hid (show ∀ k, (.slice (some ⟨g1, 0, none⟩) 6 e1 : Value).ownBlock = some k → k ≠ w2.heap.size from fun k hk => by have := own_hi O1.out k hk; omega)
 have NG2 := Lib.hid (show ∀ k, (.slice (some ⟨g2, 0, none⟩) 2 e2 : Value).ownBlock = some k → k ≠ w2.heap.size from fun k hk => by have := own_hi O2.out k hk; omega)
 have NG3 := Lib.hid (show ∀ k, (.slice A3' B.pd.length c3' : Value).ownBlock = some k → k ≠ w2.heap.size from fun k hk => by have := own_hi O3.out k hk; omega)
 have HIn3 := Lib.hid (HIn.out.next hb3)
 have R4 := Lib.hid (R3.out.below hb3 R3.out.lt)
 have Q4 := Lib.hid (Q3.out.below hb3 Q3.out.lt)
 have V4 := Lib.hid (V3.out.below hb3 V3.out.lt)
 have B4 := belN B3 hb3
 have Hb4 := Lib.hid (Hb3.out.next hb3)
 have l3 := s3
 clear O1 O2 O3 O4 R3 Q3 V3 Hb3 HIn
 have HW3 := Lib.hid hW3
 clear hW3
 go_upto_region 4 with fail
 rw [HW3.out]
 clear HW3
 obtain ⟨x0, x1, x2, x3, x4, x5, x6, x7, x8⟩ := V4.out.g9
 obtain ⟨z0, z1, z2⟩ := Q4.out.g3
 have l1 := V4.out.lt
 have l2 := Q4.out.lt
 have hdr := Lib.hid (is_dr Hb4.out)
 obtain ⟨⟨L, b⟩, hdo⟩ : ∃ p, doP B.dr k s i = p := ⟨_, rfl⟩
 have Hdo := Lib.hid hdo
 have hnm := Lib.hid (bk_szs sm).2.2.2
 go_wp2_with fail
 clear x0 x1 x2 x3 x4 x5 x6 x7 x8 z0 z1 z2 l1 l2
 refine (opDo_impl _ B.dr (by unfold szBk at sm; omega) k s i hs Hdo.out W3 (HT.out.bl B4) hdr.out).mono ?_
 rintro e w4 ⟨v4, lo4, hi4, rfl, hlo4, hin4, hb4⟩
 have own4 : w4.ownsRow lo4 66 4 v4 L.length (ES L) := hin4.is
 obtain ⟨A5, c5, rfl, _⟩ := own_vals own4
 have NL1 := Lib.hid (own_hi P1.out)
 have NL2 := Lib.hid (own_hi P2.out)
 have NL3 := Lib.hid (own_hi P3.out)
 have B5 := belN B4 hb4
 have s4 := hb4.size
 have U1 := Lib.hid (own_below P1.out hb4 (Nat.le_refl _))
 have U2 := Lib.hid (own_below P2.out hb4 (Nat.le_refl _))
 have U3 := Lib.hid (own_below P3.out hb4 (Nat.le_refl _))
 have D4 := Lib.hid own4
 have HIn4 := Lib.hid (HIn3.out.next hb4)
 have R5 := Lib.hid (R4.out.below hb4 R4.out.lt)
 have Q5 := Lib.hid (Q4.out.below hb4 Q4.out.lt)
 have hG4 := Lib.hid (hG.out.below hb4 hG.out.lt)
 have V5 := Lib.hid (V4.out.below hb4 V4.out.lt)
 clear P1 P2 P3 own4 HIn3 R4 Q4 V4 hG hin4 hdr
 obtain ⟨z0, z1, z2⟩ := Q5.out.g3
 have l2 := Q5.out.lt
 go_wp2_with fail
 clear z0 z1 z2 l2
 refine (opOk_impl k s i hs w4 (HT.out.bl B5) ).mono ?_
 rintro e w5 ⟨rfl, hb5⟩
 have B6 := belN B5 hb5
 have s5 := hb5.size
 have P1 := Lib.hid (own_below U1.out hb5 (Nat.le_refl _))
 have P2 := Lib.hid (own_below U2.out hb5 (Nat.le_refl _))
 have P3 := Lib.hid (own_below U3.out hb5 (Nat.le_refl _))
 have D5 := Lib.hid (own_below D4.out hb5 (Nat.le_refl _))
 have HIn5 := Lib.hid (HIn4.out.next hb5)
 have R6 := Lib.hid (R5.out.below hb5 R5.out.lt)
 have Q6 := Lib.hid (Q5.out.below hb5 Q5.out.lt)
 have hG5 := Lib.hid (hG4.out.below hb5 hG4.out.lt)
 have V6 := Lib.hid (V5.out.below hb5 V5.out.lt)
 clear U1 U2 U3 D4 HIn4 R5 Q5 V5 hG4
 have wb6 : IntKind.i64.wrap (B.bs + 6) = B.bs + 6 := by rw [IntKind.wrap_i64]; omega
 have wq1 : IntKind.i64.wrap (B.sq + 1) = B.sq + 1 := by rw [IntKind.wrap_i64]; omega
 have wsb : IntKind.i64.wrap (B.sq - B.bs) = B.sq - B.bs := by rw [IntKind.wrap_i64]; omega
 rcases ho : opOkB k s i with _ | _
 ·skip
  have Hf := Lib.hid (doBk_no Hok.out (k := k) (s := s) (i := i) (by rintro ⟨h, _⟩; rw [ho] at h; cases h))
  clear ho
  obtain ⟨x0, x1, x2, x3, x4, x5, x6, x7, x8⟩ := hG5.out.g9
  have l1 := hG5.out.lt
  obtain ⟨q0, q1, q2, q3, q4, q5, q6, q7, q8⟩ := R6.out.g9
  obtain ⟨p0, p1, p2, p3, p4, p5, p6, p7, p8⟩ := R6.out.f9
  have l2 := R6.out.lt
  obtain ⟨y0, y1, y2, y3, y4, y5, y6, y7, y8⟩ := V6.out.g9
  have l3 := V6.out.lt
  go_wp2
  obtain ⟨w9, h9, hB9, s9, hb9, ho9⟩ := put9n w5 (w.heap.size + 2) 28 (.slice (some ⟨g1, 0, none⟩) 6 e1) (.slice (some ⟨g2, 0, none⟩) 2 e2) (.slice A3' B.pd.length c3') (.slice A4' B.dr.length c4') (.int .i64 B.sq) (.int .i64 B.bs) (.int .i64 B.sf) (.int .i64 B.at_) (.int .i64 B.df) (.slice none 0 0) (.slice none 0 0) (.slice none 0 0) (.slice none 0 0) (.int .i64 0) (.int .i64 0) (.int .i64 0) (.int .i64 0) (.int .i64 0) R6.out
  rw [h9]
  clear h9 l1 l2 x0 x1 x2 x3 x4 x5 x6 x7 x8 q0 q1 q2 q3 q4 q5 q6 q7 q8 p0 p1 p2 p3 p4 p5 p6 p7 p8 l3 y0 y1 y2 y3 y4 y5 y6 y7 y8
  obtain ⟨r0, r1, r2, r3, r4, r5, r6, r7, r8⟩ := hB9.g9
  have hO9 := HIn5.out.2 w9 (by have := HIn5.out.1; omega) (fun j h1 h2 => ho9 j (by omega))
  refine bodyPost_ret (v := .tuple #[.agg #[.slice (some ⟨g1, 0, none⟩) 6 e1, .slice (some ⟨g2, 0, none⟩) 2 e2, .slice A3' B.pd.length c3', .slice A4' B.dr.length c4', .int .i64 B.sq, .int .i64 B.bs, .int .i64 B.sf, .int .i64 B.at_, .int .i64 B.df], .bool false]) (by simp [results, Tryz.results14, go_sem, r0, r1, r2, r3, r4, r5, r6, r7, r8]) rfl ⟨⟨B, false, _, Hf.out, rfl, own_bk_more hO9 (by omega)⟩, hb9 _ _ (by omega) B6⟩
 have Ho := Lib.hid ho
 clear ho
 rcases b with _ | _
 ·skip
  have Hf := Lib.hid (doBk_no Hok.out (k := k) (s := s) (i := i) (by rintro ⟨_, h, _⟩; rw [Hdo.out] at h; cases h))
  obtain ⟨x0, x1, x2, x3, x4, x5, x6, x7, x8⟩ := hG5.out.g9
  have l1 := hG5.out.lt
  obtain ⟨q0, q1, q2, q3, q4, q5, q6, q7, q8⟩ := R6.out.g9
  obtain ⟨p0, p1, p2, p3, p4, p5, p6, p7, p8⟩ := R6.out.f9
  have l2 := R6.out.lt
  obtain ⟨y0, y1, y2, y3, y4, y5, y6, y7, y8⟩ := V6.out.g9
  have l3 := V6.out.lt
  go_wp2
  obtain ⟨w9, h9, hB9, s9, hb9, ho9⟩ := put9n w5 (w.heap.size + 2) 28 (.slice (some ⟨g1, 0, none⟩) 6 e1) (.slice (some ⟨g2, 0, none⟩) 2 e2) (.slice A3' B.pd.length c3') (.slice A4' B.dr.length c4') (.int .i64 B.sq) (.int .i64 B.bs) (.int .i64 B.sf) (.int .i64 B.at_) (.int .i64 B.df) (.slice none 0 0) (.slice none 0 0) (.slice none 0 0) (.slice none 0 0) (.int .i64 0) (.int .i64 0) (.int .i64 0) (.int .i64 0) (.int .i64 0) R6.out
  rw [h9]
  clear h9 l1 l2 x0 x1 x2 x3 x4 x5 x6 x7 x8 q0 q1 q2 q3 q4 q5 q6 q7 q8 p0 p1 p2 p3 p4 p5 p6 p7 p8 l3 y0 y1 y2 y3 y4 y5 y6 y7 y8
  obtain ⟨r0, r1, r2, r3, r4, r5, r6, r7, r8⟩ := hB9.g9
  have hO9 := HIn5.out.2 w9 (by have := HIn5.out.1; omega) (fun j h1 h2 => ho9 j (by omega))
  refine bodyPost_ret (v := .tuple #[.agg #[.slice (some ⟨g1, 0, none⟩) 6 e1, .slice (some ⟨g2, 0, none⟩) 2 e2, .slice A3' B.pd.length c3', .slice A4' B.dr.length c4', .int .i64 B.sq, .int .i64 B.bs, .int .i64 B.sf, .int .i64 B.at_, .int .i64 B.df], .bool false]) (by simp [results, Tryz.results14, go_sem, r0, r1, r2, r3, r4, r5, r6, r7, r8]) rfl ⟨⟨B, false, _, Hf.out, rfl, own_bk_more hO9 (by omega)⟩, hb9 _ _ (by omega) B6⟩
 by_cases hc1 : B.sq < B.bs + 6
 rotate_left
 ·skip
  have Hf := Lib.hid (doBk_no Hok.out (k := k) (s := s) (i := i) (by rintro ⟨_, _, h, _⟩; exact hc1 h))
  have eq1 : (B.sq == B.bs + 6) = true := by simp; omega
  obtain ⟨x0, x1, x2, x3, x4, x5, x6, x7, x8⟩ := hG5.out.g9
  have l1 := hG5.out.lt
  obtain ⟨q0, q1, q2, q3, q4, q5, q6, q7, q8⟩ := R6.out.g9
  obtain ⟨p0, p1, p2, p3, p4, p5, p6, p7, p8⟩ := R6.out.f9
  have l2 := R6.out.lt
  obtain ⟨y0, y1, y2, y3, y4, y5, y6, y7, y8⟩ := V6.out.g9
  have l3 := V6.out.lt
  go_wp2
  obtain ⟨w9, h9, hB9, s9, hb9, ho9⟩ := put9n w5 (w.heap.size + 2) 28 (.slice (some ⟨g1, 0, none⟩) 6 e1) (.slice (some ⟨g2, 0, none⟩) 2 e2) (.slice A3' B.pd.length c3') (.slice A4' B.dr.length c4') (.int .i64 B.sq) (.int .i64 B.bs) (.int .i64 B.sf) (.int .i64 B.at_) (.int .i64 B.df) (.slice none 0 0) (.slice none 0 0) (.slice none 0 0) (.slice none 0 0) (.int .i64 0) (.int .i64 0) (.int .i64 0) (.int .i64 0) (.int .i64 0) R6.out
  rw [h9]
  clear h9 l1 l2 x0 x1 x2 x3 x4 x5 x6 x7 x8 q0 q1 q2 q3 q4 q5 q6 q7 q8 p0 p1 p2 p3 p4 p5 p6 p7 p8 l3 y0 y1 y2 y3 y4 y5 y6 y7 y8
  obtain ⟨r0, r1, r2, r3, r4, r5, r6, r7, r8⟩ := hB9.g9
  have hO9 := HIn5.out.2 w9 (by have := HIn5.out.1; omega) (fun j h1 h2 => ho9 j (by omega))
  refine bodyPost_ret (v := .tuple #[.agg #[.slice (some ⟨g1, 0, none⟩) 6 e1, .slice (some ⟨g2, 0, none⟩) 2 e2, .slice A3' B.pd.length c3', .slice A4' B.dr.length c4', .int .i64 B.sq, .int .i64 B.bs, .int .i64 B.sf, .int .i64 B.at_, .int .i64 B.df], .bool false]) (by simp [results, Tryz.results14, go_sem, r0, r1, r2, r3, r4, r5, r6, r7, r8]) rfl ⟨⟨B, false, _, Hf.out, rfl, own_bk_more hO9 (by omega)⟩, hb9 _ _ (by omega) B6⟩
 have eq1 : (B.sq == B.bs + 6) = false := beq_eq_false_iff_ne.2 (by omega)
 by_cases hc2 : B.sq < 1000000
 rotate_left
 ·skip
  have Hf := Lib.hid (doBk_no Hok.out (k := k) (s := s) (i := i) (by rintro ⟨_, _, _, h, _⟩; exact hc2 h))
  have eq2 : (B.sq == 1000000) = true := by simp; omega
  obtain ⟨x0, x1, x2, x3, x4, x5, x6, x7, x8⟩ := hG5.out.g9
  have l1 := hG5.out.lt
  obtain ⟨q0, q1, q2, q3, q4, q5, q6, q7, q8⟩ := R6.out.g9
  obtain ⟨p0, p1, p2, p3, p4, p5, p6, p7, p8⟩ := R6.out.f9
  have l2 := R6.out.lt
  obtain ⟨y0, y1, y2, y3, y4, y5, y6, y7, y8⟩ := V6.out.g9
  have l3 := V6.out.lt
  go_wp2
  obtain ⟨w9, h9, hB9, s9, hb9, ho9⟩ := put9n w5 (w.heap.size + 2) 28 (.slice (some ⟨g1, 0, none⟩) 6 e1) (.slice (some ⟨g2, 0, none⟩) 2 e2) (.slice A3' B.pd.length c3') (.slice A4' B.dr.length c4') (.int .i64 B.sq) (.int .i64 B.bs) (.int .i64 B.sf) (.int .i64 B.at_) (.int .i64 B.df) (.slice none 0 0) (.slice none 0 0) (.slice none 0 0) (.slice none 0 0) (.int .i64 0) (.int .i64 0) (.int .i64 0) (.int .i64 0) (.int .i64 0) R6.out
  rw [h9]
  clear h9 l1 l2 x0 x1 x2 x3 x4 x5 x6 x7 x8 q0 q1 q2 q3 q4 q5 q6 q7 q8 p0 p1 p2 p3 p4 p5 p6 p7 p8 l3 y0 y1 y2 y3 y4 y5 y6 y7 y8
  obtain ⟨r0, r1, r2, r3, r4, r5, r6, r7, r8⟩ := hB9.g9
  have hO9 := HIn5.out.2 w9 (by have := HIn5.out.1; omega) (fun j h1 h2 => ho9 j (by omega))
  refine bodyPost_ret (v := .tuple #[.agg #[.slice (some ⟨g1, 0, none⟩) 6 e1, .slice (some ⟨g2, 0, none⟩) 2 e2, .slice A3' B.pd.length c3', .slice A4' B.dr.length c4', .int .i64 B.sq, .int .i64 B.bs, .int .i64 B.sf, .int .i64 B.at_, .int .i64 B.df], .bool false]) (by simp [results, Tryz.results14, go_sem, r0, r1, r2, r3, r4, r5, r6, r7, r8]) rfl ⟨⟨B, false, _, Hf.out, rfl, own_bk_more hO9 (by omega)⟩, hb9 _ _ (by omega) B6⟩
 have eq2 : (B.sq == 1000000) = false := beq_eq_false_iff_ne.2 (by omega)
 by_cases hc3 : B.pd.length < 20
 rotate_left
 ·skip
  have Hf := Lib.hid (doBk_no Hok.out (k := k) (s := s) (i := i) (by rintro ⟨_, _, _, _, h⟩; exact hc3 h))
  have eq3 : (((B.pd.length : Nat) : Int) == 20) = true := by simp; omega
  obtain ⟨x0, x1, x2, x3, x4, x5, x6, x7, x8⟩ := hG5.out.g9
  have l1 := hG5.out.lt
  obtain ⟨q0, q1, q2, q3, q4, q5, q6, q7, q8⟩ := R6.out.g9
  obtain ⟨p0, p1, p2, p3, p4, p5, p6, p7, p8⟩ := R6.out.f9
  have l2 := R6.out.lt
  obtain ⟨y0, y1, y2, y3, y4, y5, y6, y7, y8⟩ := V6.out.g9
  have l3 := V6.out.lt
  go_wp2
  obtain ⟨w9, h9, hB9, s9, hb9, ho9⟩ := put9n w5 (w.heap.size + 2) 28 (.slice (some ⟨g1, 0, none⟩) 6 e1) (.slice (some ⟨g2, 0, none⟩) 2 e2) (.slice A3' B.pd.length c3') (.slice A4' B.dr.length c4') (.int .i64 B.sq) (.int .i64 B.bs) (.int .i64 B.sf) (.int .i64 B.at_) (.int .i64 B.df) (.slice none 0 0) (.slice none 0 0) (.slice none 0 0) (.slice none 0 0) (.int .i64 0) (.int .i64 0) (.int .i64 0) (.int .i64 0) (.int .i64 0) R6.out
  rw [h9]
  clear h9 l1 l2 x0 x1 x2 x3 x4 x5 x6 x7 x8 q0 q1 q2 q3 q4 q5 q6 q7 q8 p0 p1 p2 p3 p4 p5 p6 p7 p8 l3 y0 y1 y2 y3 y4 y5 y6 y7 y8
  obtain ⟨r0, r1, r2, r3, r4, r5, r6, r7, r8⟩ := hB9.g9
  have hO9 := HIn5.out.2 w9 (by have := HIn5.out.1; omega) (fun j h1 h2 => ho9 j (by omega))
  refine bodyPost_ret (v := .tuple #[.agg #[.slice (some ⟨g1, 0, none⟩) 6 e1, .slice (some ⟨g2, 0, none⟩) 2 e2, .slice A3' B.pd.length c3', .slice A4' B.dr.length c4', .int .i64 B.sq, .int .i64 B.bs, .int .i64 B.sf, .int .i64 B.at_, .int .i64 B.df], .bool false]) (by simp [results, Tryz.results14, go_sem, r0, r1, r2, r3, r4, r5, r6, r7, r8]) rfl ⟨⟨B, false, _, Hf.out, rfl, own_bk_more hO9 (by omega)⟩, hb9 _ _ (by omega) B6⟩
 have eq3 : (((B.pd.length : Nat) : Int) == 20) = false := beq_eq_false_iff_ne.2 (by omega)
 have Hf := Lib.hid (doBk_yes Hok.out (k := k) (s := s) (i := i) ⟨Ho.out, by rw [Hdo.out], hc1, hc2, hc3⟩)
 obtain ⟨xo, hxo⟩ : ∃ t, showOpB k s i = t := ⟨_, rfl⟩
 obtain ⟨tx, htx⟩ : ∃ t, showRecB (B.sq + 1) xo = t := ⟨_, rfl⟩
 have hsz : xo.size ≤ 9223372036854775807 := by have h1 := opOk_size Ho.out; have h2 := varB_size k; have h3 := varB_size i; rw [← hxo]; unfold showOpB; rw [if_pos Ho.out, ByteArray.size_append, ByteArray.size_append]; omega
 have H8 := Lib.hid (fun W (hT : Tab W) => by have h := showOp_impl k s i hs W hT; rw [hxo] at h; exact h)
 have H10 := Lib.hid (fun W => by have h := showRec_impl (B.sq + 1) xo W hsz; rw [htx] at h; exact h)
 rw [hxo, htx, Hdo.out] at Hf
 have Hf2 := Lib.hid Hf.out
 clear Hf hxo htx hsz Hdo Ho
 have u2 := V6.out.get 2 rfl
 have u4 := V6.out.get 4 rfl
 have u5 := V6.out.get 5 rfl
 have l3 := V6.out.lt
 have x3 := hG5.out.get 3 rfl
 have x4 := hG5.out.get 4 rfl
 have y3 := hG5.out.frozen 3
 have y4 := hG5.out.frozen 4
 have l1 := hG5.out.lt
 have mt : (B.sq + 1).tmod 6 = (B.sq + 1) % 6 := Int.tmod_eq_emod_of_nonneg (by omega)
 go_upto_region 9 with fail
 obtain ⟨wb, hwb⟩ : ∃ W, (w5.setCell ⟨w2.heap.size, 3, none⟩ (.slice A5 L.length c5)).setCell ⟨w2.heap.size, 4, none⟩ (.int .i64 (B.sq + 1)) = W := ⟨_, rfl⟩
 rw [hwb]
 have hGb := Lib.hid (show Blk wb w2.heap.size 28 #[.slice (some ⟨g1, 0, none⟩) 6 e1, .slice (some ⟨g2, 0, none⟩) 2 e2, .slice A3' B.pd.length c3', .slice A5 L.length c5, .int .i64 (B.sq + 1), .int .i64 B.bs, .int .i64 B.sf, .int .i64 B.at_, .int .i64 B.df] by rw [← hwb]; exact (hG5.out.put 3 (.slice A5 L.length c5) #[.slice (some ⟨g1, 0, none⟩) 6 e1, .slice (some ⟨g2, 0, none⟩) 2 e2, .slice A3' B.pd.length c3', .slice A5 L.length c5, .int .i64 B.sq, .int .i64 B.bs, .int .i64 B.sf, .int .i64 B.at_, .int .i64 B.df] rfl).put 4 (.int .i64 (B.sq + 1)) #[.slice (some ⟨g1, 0, none⟩) 6 e1, .slice (some ⟨g2, 0, none⟩) 2 e2, .slice A3' B.pd.length c3', .slice A5 L.length c5, .int .i64 (B.sq + 1), .int .i64 B.bs, .int .i64 B.sf, .int .i64 B.at_, .int .i64 B.df] rfl)
 have Gge : w.heap.size ≤ w2.heap.size ∧ w2.heap.size ≠ w.heap.size + 1 ∧ w2.heap.size ≠ w.heap.size + 2 := by omega
 have K1 := Lib.hid (show wb.ownsRow w1.heap.size 9 1 (.slice (some ⟨g1, 0, none⟩) 6 e1) 6 (SS B.rg) by rw [← hwb]; exact own_scN (own_scN P1.out 3 NG1.out (.slice A5 L.length c5)) 4 NG1.out _)
 have K2 := Lib.hid (show wb.ownsRow w1.heap.size 9 1 (.slice (some ⟨g2, 0, none⟩) 2 e2) 2 (SS B.hm) by rw [← hwb]; exact own_scN (own_scN P2.out 3 NG2.out (.slice A5 L.length c5)) 4 NG2.out _)
 have K3 := Lib.hid (show wb.ownsRow w1.heap.size 55 2 (.slice A3' B.pd.length c3') B.pd.length (RS B.pd) by rw [← hwb]; exact own_scN (own_scN P3.out 3 NG3.out (.slice A5 L.length c5)) 4 NG3.out _)
 have D6 := Lib.hid (show wb.ownsRow lo4 66 4 (.slice A5 L.length c5) L.length (ES L) by rw [← hwb]; exact own_sc (own_sc D5.out 3 (by omega) (.slice A5 L.length c5)) 4 (by omega) _)
 have Q7 := Lib.hid (show Blk wb (w.heap.size + 1) 32 #[.int .i64 k, .string s, .int .i64 i] by rw [← hwb]; exact (Q6.out.far (p := ⟨w2.heap.size, 3, none⟩) (fun e => Gge.2.1 e.symm) (.slice A5 L.length c5)).far (p := ⟨w2.heap.size, 4, none⟩) (fun e => Gge.2.1 e.symm) _)
 have R7 := Lib.hid (show Blk wb (w.heap.size + 2) 28 zB_ by rw [← hwb]; exact (R6.out.far (p := ⟨w2.heap.size, 3, none⟩) (fun e => Gge.2.2 e.symm) (.slice A5 L.length c5)).far (p := ⟨w2.heap.size, 4, none⟩) (fun e => Gge.2.2 e.symm) _)
 have Bb : Below w.heap.size w wb := by rw [← hwb]; exact (B6.setCell (p := ⟨w2.heap.size, 3, none⟩) Gge.1 (.slice A5 L.length c5)).setCell (p := ⟨w2.heap.size, 4, none⟩) Gge.1 _
 have sb : wb.heap.size = w5.heap.size := by rw [← hwb]; simp
 clear hwb x3 x4 y3 y4 l1 u2 u5 l3 u4 P1 P2 P3 D5 Q6 R6 hG5 HIn5 V6
 have g4 := hGb.out.get (x := .int .i64 (B.sq + 1)) 4 rfl
 have g2 := hGb.out.get (x := .slice A3' B.pd.length c3') 2 rfl
 have z0 := Q7.out.get (x := .int .i64 k) 0 rfl
 have z1 := Q7.out.get (x := .string s) 1 rfl
 have z2 := Q7.out.get (x := .int .i64 i) 2 rfl
 refine wp_region_held_drew (S := fun w' => w'.cell? ⟨w2.heap.size, 4, none⟩ = some (.int .i64 (B.sq + 1)) ∧ w'.cell? ⟨w.heap.size + 1, 0, none⟩ = some (.int .i64 k) ∧ w'.cell? ⟨w.heap.size + 1, 1, none⟩ = some (.string s) ∧ w'.cell? ⟨w.heap.size + 1, 2, none⟩ = some (.int .i64 i)) (by kernel_rfl) (by exact ⟨g4, z0, z1, z2⟩) (fun hHeld => ?_)
 clear hHeld
 refine foldH ?_
 intro r hr0
 have bw : Below wb.heap.size wb r := by rw [hr0]; exact (bel0 wb).drew
 clear hr0
 apply mem3_nw (P := fun aLw q => Below wb.heap.size wb q ∧ q.ownsRow wb.heap.size 55 2 (.slice (some ⟨aLw, 0, none⟩) (1) 1) (1) (RS [((B.sq + 1) % 6, tx)]))
 case use =>
  intro key_bdi_1_8_10_12
  apply mem3_nw (P := fun aLw q => Below wb.heap.size wb q ∧ q.ownsRow wb.heap.size 55 2 (.slice (some ⟨aLw, 0, none⟩) (1) 1) (1) (RS [((B.sq + 1) % 6, tx)]))
  case use =>
   intro key_bdi_8_10_12
   apply mem3_w (P := fun  q => Below wb.heap.size wb q)
   case use =>
    intro key_bdi_1_8_10
    apply mem3_w (P := fun  q => Below wb.heap.size wb q)
    case use =>
     intro key_bdi_8_10
     apply mem3_w (P := fun  q => Below wb.heap.size wb q)
     case use =>
      intro key_bdi_1_8
      apply mem3_w (P := fun  q => Below wb.heap.size wb q)
      case use =>
       intro key_bdi_8
       apply mem3_w (P := fun  q => Below wb.heap.size wb q)
       case use =>
        intro key_bdi_1
        refine tkV_ 0 (v := ?v10001) ?hy10001 ?hS10001 ?hr10001
        case hS10001 => exact ⟨keep1 bw g4, keep1 bw z0, keep1 bw z1, keep1 bw z2⟩
        case hy10001 => refine Or.inl ⟨by rfl, ?_⟩; intro w hSw; (try dsimp only at hSw); go_simp; (try with_reducible rfl)
        simp only [Act.put, pT_, pZ_, pS_]
        refine tkV_ 2 (v := ?v10002) ?hy10002 ?hS10002 ?hr10002
        case hS10002 => exact ⟨keep1 bw g4, keep1 bw z0, keep1 bw z1, keep1 bw z2⟩
        case hy10002 => refine Or.inl ⟨by rfl, ?_⟩; intro w hSw; (try dsimp only at hSw); go_simp; (try with_reducible rfl)
        simp only [Act.put, pT_, pZ_, pS_]
        refine tkV_ 3 (v := ?v10003) ?hy10003 ?hS10003 ?hr10003
        case hS10003 => exact ⟨keep1 bw g4, keep1 bw z0, keep1 bw z1, keep1 bw z2⟩
        case hy10003 => refine Or.inl ⟨by rfl, ?_⟩; intro w hSw; (try dsimp only at hSw); go_simp; (try with_reducible rfl)
        simp only [Act.put, pT_, pZ_, pS_]
        refine tkV_ 4 (v := ?v10004) ?hy10004 ?hS10004 ?hr10004
        case hS10004 => exact ⟨keep1 bw g4, keep1 bw z0, keep1 bw z1, keep1 bw z2⟩
        case hy10004 => refine Or.inl ⟨by rfl, ?_⟩; intro w hSw; (try dsimp only at hSw); go_simp; (try with_reducible rfl)
        simp only [Act.put, pT_, pZ_, pS_]
        refine tkV_ 5 (v := ?v10005) ?hy10005 ?hS10005 ?hr10005
        case hS10005 => exact ⟨keep1 bw g4, keep1 bw z0, keep1 bw z1, keep1 bw z2⟩
        case hy10005 => refine Or.inl ⟨by rfl, ?_⟩; intro w hSw; (try dsimp only at hSw); go_simp; (try with_reducible rfl)
        simp only [Act.put, pT_, pZ_, pS_]
        refine tkV_ 6 (v := ?v10006) ?hy10006 ?hS10006 ?hr10006
        case hS10006 => exact ⟨keep1 bw g4, keep1 bw z0, keep1 bw z1, keep1 bw z2⟩
        case hy10006 => refine Or.inl ⟨by rfl, ?_⟩; intro w hSw; (try dsimp only at hSw); go_simp; (try with_reducible rfl)
        simp only [Act.put, pT_, pZ_, pS_]
        refine tkV_ 7 (v := ?v10007) ?hy10007 ?hS10007 ?hr10007
        case hS10007 => exact ⟨keep1 bw g4, keep1 bw z0, keep1 bw z1, keep1 bw z2⟩
        case hy10007 => refine Or.inl ⟨by rfl, ?_⟩; intro w hSw; (try dsimp only at hSw); go_simp; (try with_reducible rfl)
        simp only [Act.put, pT_, pZ_, pS_]
        refine wpAnyH_ready (rs := [1, 8]) (by kernel_rfl) (by simp) ?_
        refine AllReadyH.cons (o := ?oi10008) ?hi10008 (fun K hK => ?br10008) (AllReadyH.cons (o := ?oi10009) ?hi10009 (fun K hK => ?br10009) AllReadyH.nil)
        case hi10008 => (conv => lhs; simp only [gT_, gZ_, gS_]); try exact rfl
        case hi10009 => (conv => lhs; simp only [gT_, gZ_, gS_]); try exact rfl
        case br10008 =>
         have x_0 := keep1 bw g2
         go_simp
         refine hK.out _ _ (by exact ⟨keep1 bw g4, keep1 bw z0, keep1 bw z1, keep1 bw z2⟩) (fun _ => ?_)
         clear hK K
         try simp only [Act.put, pT_, pZ_, pS_]
         have bw2 := bw
         exact key_bdi_1  r bw2
        case br10009 =>
         go_simp
         go_at_call 37
         refine (H8.out _ (HT.out.bl (belN Bb bw))).mono ?_
         rintro e q ⟨rfl, hb⟩
         have bw2 := bw.trans (hb.mono bw.size)
         refine hK.out _ _ (by exact ⟨keep1 bw2 g4, keep1 bw2 z0, keep1 bw2 z1, keep1 bw2 z2⟩) (fun _ => ?_)
         clear hK K
         try simp only [Act.put, pT_, pZ_, pS_]
         refine tkV_ 9 (v := ?v10010) ?hy10010 ?hS10010 ?hr10010
         case hS10010 => exact ⟨keep1 bw2 g4, keep1 bw2 z0, keep1 bw2 z1, keep1 bw2 z2⟩
         case hy10010 => refine Or.inl ⟨by rfl, ?_⟩; intro w hSw; (try dsimp only at hSw); go_simp; (try with_reducible rfl)
         simp only [Act.put, pT_, pZ_, pS_]
         exact key_bdi_8  q bw2
       case key =>
        rintro  r bw
        try dsimp only
        refine wpAnyH_ready (rs := [8]) (by kernel_rfl) (by simp) ?_
        refine AllReadyH.cons (o := ?oi10011) ?hi10011 (fun K hK => ?br10011) AllReadyH.nil
        case hi10011 => (conv => lhs; simp only [gT_, gZ_, gS_]); try exact rfl
        case br10011 =>
         go_simp
         go_at_call 37
         refine (H8.out _ (HT.out.bl (belN Bb bw))).mono ?_
         rintro e q ⟨rfl, hb⟩
         have bw2 := bw.trans (hb.mono bw.size)
         refine hK.out _ _ (by exact ⟨keep1 bw2 g4, keep1 bw2 z0, keep1 bw2 z1, keep1 bw2 z2⟩) (fun _ => ?_)
         clear hK K
         try simp only [Act.put, pT_, pZ_, pS_]
         refine tkV_ 9 (v := ?v10012) ?hy10012 ?hS10012 ?hr10012
         case hS10012 => exact ⟨keep1 bw2 g4, keep1 bw2 z0, keep1 bw2 z1, keep1 bw2 z2⟩
         case hy10012 => refine Or.inl ⟨by rfl, ?_⟩; intro w hSw; (try dsimp only at hSw); go_simp; (try with_reducible rfl)
         simp only [Act.put, pT_, pZ_, pS_]
         exact key_bdi_1_8  q bw2
      case key =>
       rintro  r bw
       try dsimp only
       refine wpAnyH_ready (rs := [1, 10]) (by kernel_rfl) (by simp) ?_
       refine AllReadyH.cons (o := ?oi10013) ?hi10013 (fun K hK => ?br10013) (AllReadyH.cons (o := ?oi10014) ?hi10014 (fun K hK => ?br10014) AllReadyH.nil)
       case hi10013 => (conv => lhs; simp only [gT_, gZ_, gS_]); try exact rfl
       case hi10014 => (conv => lhs; simp only [gT_, gZ_, gS_]); try exact rfl
       case br10013 =>
        have x_0 := keep1 bw g2
        go_simp
        refine hK.out _ _ (by exact ⟨keep1 bw g4, keep1 bw z0, keep1 bw z1, keep1 bw z2⟩) (fun _ => ?_)
        clear hK K
        try simp only [Act.put, pT_, pZ_, pS_]
        have bw2 := bw
        exact key_bdi_1_8  r bw2
       case br10014 =>
        go_simp
        go_at_call 36
        refine (H10.out _).mono ?_
        rintro e q ⟨rfl, hb⟩
        have bw2 := bw.trans (hb.mono bw.size)
        refine hK.out _ _ (by exact ⟨keep1 bw2 g4, keep1 bw2 z0, keep1 bw2 z1, keep1 bw2 z2⟩) (fun _ => ?_)
        clear hK K
        try simp only [Act.put, pT_, pZ_, pS_]
        refine tkV_ 11 (v := ?v10015) ?hy10015 ?hS10015 ?hr10015
        case hS10015 => exact ⟨keep1 bw2 g4, keep1 bw2 z0, keep1 bw2 z1, keep1 bw2 z2⟩
        case hy10015 => refine Or.inl ⟨by rfl, ?_⟩; intro w hSw; (try dsimp only at hSw); go_simp; (try with_reducible rfl)
        simp only [Act.put, pT_, pZ_, pS_]
        exact key_bdi_8_10  q bw2
     case key =>
      rintro  r bw
      try dsimp only
      refine wpAnyH_ready (rs := [10]) (by kernel_rfl) (by simp) ?_
      refine AllReadyH.cons (o := ?oi10016) ?hi10016 (fun K hK => ?br10016) AllReadyH.nil
      case hi10016 => (conv => lhs; simp only [gT_, gZ_, gS_]); try exact rfl
      case br10016 =>
       go_simp
       go_at_call 36
       refine (H10.out _).mono ?_
       rintro e q ⟨rfl, hb⟩
       have bw2 := bw.trans (hb.mono bw.size)
       refine hK.out _ _ (by exact ⟨keep1 bw2 g4, keep1 bw2 z0, keep1 bw2 z1, keep1 bw2 z2⟩) (fun _ => ?_)
       clear hK K
       try simp only [Act.put, pT_, pZ_, pS_]
       refine tkV_ 11 (v := ?v10017) ?hy10017 ?hS10017 ?hr10017
       case hS10017 => exact ⟨keep1 bw2 g4, keep1 bw2 z0, keep1 bw2 z1, keep1 bw2 z2⟩
       case hy10017 => refine Or.inl ⟨by rfl, ?_⟩; intro w hSw; (try dsimp only at hSw); go_simp; (try with_reducible rfl)
       simp only [Act.put, pT_, pZ_, pS_]
       exact key_bdi_1_8_10  q bw2
    case key =>
     rintro  r bw
     try dsimp only
     refine wpAnyH_ready (rs := [1, 12]) (by kernel_rfl) (by simp) ?_
     refine AllReadyH.cons (o := ?oi10018) ?hi10018 (fun K hK => ?br10018) (AllReadyH.cons (o := ?oi10019) ?hi10019 (fun K hK => ?br10019) AllReadyH.nil)
     case hi10018 => (conv => lhs; simp only [gT_, gZ_, gS_]); try exact rfl
     case hi10019 => (conv => lhs; simp only [gT_, gZ_, gS_]); try exact rfl
     case br10018 =>
      have x_0 := keep1 bw g2
      go_simp
      refine hK.out _ _ (by exact ⟨keep1 bw g4, keep1 bw z0, keep1 bw z1, keep1 bw z2⟩) (fun _ => ?_)
      clear hK K
      try simp only [Act.put, pT_, pZ_, pS_]
      have bw2 := bw
      exact key_bdi_1_8_10  r bw2
     case br10019 =>
      go_simp
      refine hK.out _ _ (by exact ⟨keep1 (belA bw (.cells #[.int .i64 ((B.sq + 1) % 6), .string tx] 55)) g4, keep1 (belA bw (.cells #[.int .i64 ((B.sq + 1) % 6), .string tx] 55)) z0, keep1 (belA bw (.cells #[.int .i64 ((B.sq + 1) % 6), .string tx] 55)) z1, keep1 (belA bw (.cells #[.int .i64 ((B.sq + 1) % 6), .string tx] 55)) z2⟩) (fun _ => ?_)
      clear hK K
      try simp only [Act.put, pT_, pZ_, pS_]
      refine foldH ?_
      intro q hq
      obtain ⟨aLw, ha⟩ : ∃ g, r.heap.size = g := ⟨_, rfl⟩
      rw [ha]
      have bw2 : Below wb.heap.size wb q := by rw [hq]; exact belA bw _
      have oLw2 : q.ownsRow wb.heap.size 55 2 (.slice (some ⟨aLw, 0, none⟩) (1) 1) (1) (RS [((B.sq + 1) % 6, tx)]) := by rw [hq, ← ha]; exact own_lit2 _ _ _ _ _ bw.size
      exact key_bdi_8_10_12 aLw q ⟨bw2, oLw2⟩
   case key =>
    rintro  r bw
    try dsimp only
    refine wpAnyH_ready (rs := [12]) (by kernel_rfl) (by simp) ?_
    refine AllReadyH.cons (o := ?oi10020) ?hi10020 (fun K hK => ?br10020) AllReadyH.nil
    case hi10020 => (conv => lhs; simp only [gT_, gZ_, gS_]); try exact rfl
    case br10020 =>
     go_simp
     refine hK.out _ _ (by exact ⟨keep1 (belA bw (.cells #[.int .i64 ((B.sq + 1) % 6), .string tx] 55)) g4, keep1 (belA bw (.cells #[.int .i64 ((B.sq + 1) % 6), .string tx] 55)) z0, keep1 (belA bw (.cells #[.int .i64 ((B.sq + 1) % 6), .string tx] 55)) z1, keep1 (belA bw (.cells #[.int .i64 ((B.sq + 1) % 6), .string tx] 55)) z2⟩) (fun _ => ?_)
     clear hK K
     try simp only [Act.put, pT_, pZ_, pS_]
     refine foldH ?_
     intro q hq
     obtain ⟨aLw, ha⟩ : ∃ g, r.heap.size = g := ⟨_, rfl⟩
     rw [ha]
     have bw2 : Below wb.heap.size wb q := by rw [hq]; exact belA bw _
     have oLw2 : q.ownsRow wb.heap.size 55 2 (.slice (some ⟨aLw, 0, none⟩) (1) 1) (1) (RS [((B.sq + 1) % 6, tx)]) := by rw [hq, ← ha]; exact own_lit2 _ _ _ _ _ bw.size
     exact key_bdi_1_8_10_12 aLw q ⟨bw2, oLw2⟩
  case key =>
   rintro aLw r ⟨bw, oLw⟩
   try dsimp only
   refine wpAnyH_ready (rs := [1]) (by kernel_rfl) (by simp) ?_
   refine AllReadyH.cons (o := ?oi10021) ?hi10021 (fun K hK => ?br10021) AllReadyH.nil
   case hi10021 => (conv => lhs; simp only [gT_, gZ_, gS_]); try exact rfl
   case br10021 =>
    have x_0 := keep1 bw g2
    go_simp
    refine hK.out _ _ (by exact ⟨keep1 bw g4, keep1 bw z0, keep1 bw z1, keep1 bw z2⟩) (fun _ => ?_)
    clear hK K
    try simp only [Act.put, pT_, pZ_, pS_]
    have bw2 := bw
    have oLw2 := oLw
    exact key_bdi_1_8_10_12 aLw r ⟨bw2, oLw2⟩
 case key =>
  rintro aLw r ⟨bw, oLw⟩
  try dsimp only
  refine wpAnyH_ready (rs := [13]) (by kernel_rfl) (by simp) ?_
  refine AllReadyH.cons (o := ?oi10022) ?hi10022 (fun K hK => ?br10022) AllReadyH.nil
  case hi10022 => (conv => lhs; simp only [gT_, gZ_, gS_]); try exact rfl
  case br10022 =>
   refine step_appY _ (by rfl) _ _ 25 (by rfl) Tryz.el_write (own_below K3.out bw (Nat.le_refl _)) (by rfl) (Reads.of_own oLw) (by rfl) (RS_cells _) (by unfold maxLen; omega) (by omega) (by have := bw.size; omega) ?_
   intro v q ow hg hor hb
   obtain ⟨gv, cv, rfl⟩ := own_form1 ow (by omega)
   have ngv : gv ≠ w2.heap.size := by
    rcases hor with h | h
    ·exact NG3.out gv h.symm
    ·have := hGb.out.lt; have := bw.size; simp only [Value.ownBlock, Option.some.injEq] at h; omega
   have hGq := (hGb.out.below bw hGb.out.lt).grown hg (fun e => NG3.out w2.heap.size e.symm rfl)
   have hQq := (Q7.out.below bw Q7.out.lt).grown hg (blk_ne_own Q7.out K3.out (by omega))
   have hRq := (R7.out.below bw R7.out.lt).grown hg (blk_ne_own R7.out K3.out (by omega))
   have k1q := own_keepN (own_below K1.out bw (Nat.le_refl _)) hg DD.out.2.1
   have k2q := own_keepN (own_below K2.out bw (Nat.le_refl _)) hg DD.out.2.2
   have d6q := own_keepN (own_below D6.out bw (Nat.le_refl _)) hg (dis_lt lo4 (fun k hk => by have := NL3.out k hk; omega) (own_lo D6.out)).symm
   have bq : Below w.heap.size w q := (belN Bb bw).trans (hb.mono (by omega))
   have zq := Nat.le_trans bw.size hg.size
   have dv1 := dis_new DD.out.2.1 (own_hi K1.out) bw.size hor
   have dv2 := dis_new DD.out.2.2 (own_hi K2.out) bw.size hor
   have dv4 : Dis (.slice A5 L.length c5) (.slice (some ⟨gv, 0, none⟩) (B.pd.length + 1) cv) := dis_new (dis_lt lo4 (fun k hk => by have := NL3.out k hk; omega) (own_lo D6.out)).symm (own_hi D6.out) bw.size hor
   clear hg hor hb bw oLw g4 g2 z0 z1 z2 K1 K2 K3 D6 Q7 R7 hGb
   have g4 := hGq.get (x := .int .i64 (B.sq + 1)) 4 rfl
   have z0 := hQq.get (x := .int .i64 k) 0 rfl
   have z1 := hQq.get (x := .string s) 1 rfl
   have z2 := hQq.get (x := .int .i64 i) 2 rfl
   try simp only [Act.put, pT_, pZ_, pS_]
   refine hK.out _ _ (by exact ⟨g4, z0, z1, z2⟩) (fun _ => ?_)
   clear hK K
   try simp only [Act.put, pT_, pZ_, pS_]
   refine tkV_ 14 (v := ?v10023) ?hy10023 ?hS10023 ?hr10023
   case hS10023 => exact ⟨g4, z0, z1, z2⟩
   case hy10023 => refine Or.inl ⟨by rfl, ?_⟩; intro w hSw; (try dsimp only at hSw); go_simp; (try with_reducible rfl)
   simp only [Act.put, pT_, pZ_, pS_]
   refine wpAnyH_ready (rs := [15]) (by kernel_rfl) (by simp) ?_
   refine AllReadyH.cons (o := ?oi10024) ?hi10024 (fun K hK => ?br10024) AllReadyH.nil
   case hi10024 => (conv => lhs; simp only [gT_, gZ_, gS_]); try exact rfl
   case br10024 =>
    have x_0 := hGq.get (x := .slice A3' B.pd.length c3') 2 rfl
    have f_0 := hGq.frozen 2
    have l_0 := hGq.lt
    have hGz := hGq.put 2 (.slice (some ⟨gv, 0, none⟩) (B.pd.length + 1) cv) #[.slice (some ⟨g1, 0, none⟩) 6 e1, .slice (some ⟨g2, 0, none⟩) 2 e2, .slice (some ⟨gv, 0, none⟩) (B.pd.length + 1) cv, .slice A5 L.length c5, .int .i64 (B.sq + 1), .int .i64 B.bs, .int .i64 B.sf, .int .i64 B.at_, .int .i64 B.df] rfl
    have hQz := hQq.far (p := ⟨w2.heap.size, 2, none⟩) (fun e => Gge.2.1 e.symm) (.slice (some ⟨gv, 0, none⟩) (B.pd.length + 1) cv)
    go_simp
    refine hK.out _ _ (by exact ⟨hGz.get 4 rfl, hQz.get 0 rfl, hQz.get 1 rfl, hQz.get 2 rfl⟩) (fun _ => ?_)
    clear hK K
    try simp only [Act.put, pT_, pZ_, pS_]
    refine wpAnyH_done (by kernel_rfl) ?_ _
    have hRz := hRq.far (p := ⟨w2.heap.size, 2, none⟩) (fun e => Gge.2.2 e.symm) (.slice (some ⟨gv, 0, none⟩) (B.pd.length + 1) cv)
    have k1z := own_scN k1q 2 NG1.out (.slice (some ⟨gv, 0, none⟩) (B.pd.length + 1) cv)
    have k2z := own_scN k2q 2 NG2.out (.slice (some ⟨gv, 0, none⟩) (B.pd.length + 1) cv)
    have owz := own_scN ow 2 (fun k hk => by simp only [Value.ownBlock, Option.some.injEq] at hk; rw [← hk]; exact ngv) (.slice (some ⟨gv, 0, none⟩) (B.pd.length + 1) cv)
    have d6z := own_sc (g := w2.heap.size) d6q 2 (by omega) (.slice (some ⟨gv, 0, none⟩) (B.pd.length + 1) cv)
    have bz := bq.setCell (p := ⟨w2.heap.size, 2, none⟩) Gge.1 (.slice (some ⟨gv, 0, none⟩) (B.pd.length + 1) cv)
    have sz : (q.setCell ⟨w2.heap.size, 2, none⟩ (.slice (some ⟨gv, 0, none⟩) (B.pd.length + 1) cv)).heap.size = q.heap.size := sz_sc _ _ _
    clear x_0 f_0 l_0 hGq hQq hQz hRq k1q k2q d6q bq g4 z0 z1 z2 ow
    generalize q.setCell ⟨w2.heap.size, 2, none⟩ (.slice (some ⟨gv, 0, none⟩) (B.pd.length + 1) cv) = z at *
    obtain ⟨x0, x1, x2, x3, x4, x5, x6, x7, x8⟩ := hGz.g9
    have l1 := hGz.lt
    obtain ⟨q0, q1, q2, q3, q4, q5, q6, q7, q8⟩ := hRz.g9
    obtain ⟨p0, p1, p2, p3, p4, p5, p6, p7, p8⟩ := hRz.f9
    have l2 := hRz.lt
    go_wp2
    obtain ⟨w9, h9, hB9, s9, hb9, ho9⟩ := put9 z (w.heap.size + 2) 28 (.slice (some ⟨g1, 0, none⟩) 6 e1) (.slice (some ⟨g2, 0, none⟩) 2 e2) (.slice (some ⟨gv, 0, none⟩) (B.pd.length + 1) cv) (.slice A5 L.length c5) (.int .i64 (B.sq + 1)) (.int .i64 B.bs) (.int .i64 B.sf) (.int .i64 B.at_) (.int .i64 B.df) (.slice none 0 0) (.slice none 0 0) (.slice none 0 0) (.slice none 0 0) (.int .i64 0) (.int .i64 0) (.int .i64 0) (.int .i64 0) (.int .i64 0) hRz
    rw [h9]
    clear h9 l1 l2 x0 x1 x2 x3 x4 x5 x6 x7 x8 q0 q1 q2 q3 q4 q5 q6 q7 q8 p0 p1 p2 p3 p4 p5 p6 p7 p8
    obtain ⟨r0, r1, r2, r3, r4, r5, r6, r7, r8⟩ := hB9.g9
    refine bodyPost_ret (v := .tuple #[.agg #[.slice (some ⟨g1, 0, none⟩) 6 e1, .slice (some ⟨g2, 0, none⟩) 2 e2, .slice (some ⟨gv, 0, none⟩) (B.pd.length + 1) cv, .slice A5 L.length c5, .int .i64 (B.sq + 1), .int .i64 B.bs, .int .i64 B.sf, .int .i64 B.at_, .int .i64 B.df], .bool true]) (by simp [results, Tryz.results14, go_sem, r0, r1, r2, r3, r4, r5, r6, r7, r8]) rfl ⟨⟨_, true, _, Hf2.out, rfl, do_own H6.out H2.out (own_more (ho9 _ _ _ _ _ _ (by omega) k1z) (by omega)) (own_more (ho9 _ _ _ _ _ _ (by omega) k2z) (by omega)) (own_more (ho9 _ _ _ _ _ _ (by omega) owz) (by omega)) (own_more (ho9 _ _ _ _ _ _ (by omega) d6z) (by omega)) DD.out.1 dv1 (dis_lt lo4 (fun k hk => by have := NL1.out k hk; omega) (own_lo d6z)) dv2 (dis_lt lo4 (fun k hk => by have := NL2.out k hk; omega) (own_lo d6z)) dv4.symm⟩, hb9 _ _ (by omega) bz⟩

set_option maxRecDepth 100000 in
set_option maxHeartbeats 8000000 in
theorem bookDo_spec0 (v : Value) (B : BookD) (sm : szBk B ≤ 1048576) (k : Int) (s : ByteArray) (i : Int) (hs : s.size ≤ 2000000) (w : World) (h : IsBook w v B) :
  Calls Tryz.prog 17 #[v, .agg #[.int .i64 k, .string s, .int .i64 i]] w fun e w' => FlPost w (doBk B k s i) e w' ∧ Below w.heap.size w w' := by
 obtain ⟨A1, c1, A2, c2, A3, c3, A4, c4, rfl, h⟩ := h
 have H := Lib.hid h
 clear h
 obtain ⟨W1, hW1⟩ : ∃ W, ((w.alloc (.cells #[.slice A1 B.rg.length c1, .slice A2 B.hm.length c2, .slice A3 B.pd.length c3, .slice A4 B.dr.length c4, .int .i64 B.sq, .int .i64 B.bs, .int .i64 B.sf, .int .i64 B.at_, .int .i64 B.df] 28)).alloc (.cells #[.int .i64 k, .string s, .int .i64 i] 32)).alloc (.cells zB_ 28) = W := ⟨_, rfl⟩
 have B1 : Below w.heap.size w W1 := by rw [← hW1]; exact belA (belA (belA (bel0 w) _) _) _
 have S1 : W1.heap.size = w.heap.size + 3 := by rw [← hW1]; simp
 have V1 := Lib.hid (show Blk W1 w.heap.size 28 #[.slice A1 B.rg.length c1, .slice A2 B.hm.length c2, .slice A3 B.pd.length c3, .slice A4 B.dr.length c4, .int .i64 B.sq, .int .i64 B.bs, .int .i64 B.sf, .int .i64 B.at_, .int .i64 B.df] by rw [← hW1]; exact ((Blk.new' _ _ _ _ rfl).alloc _).alloc _)
 have Q1 := Lib.hid (show Blk W1 (w.heap.size + 1) 32 #[.int .i64 k, .string s, .int .i64 i] by rw [← hW1]; exact (Blk.new' _ _ _ _ (by simp)).alloc _)
 have R1 := Lib.hid (show Blk W1 (w.heap.size + 2) 28 zB_ by rw [← hW1]; exact Blk.new' _ _ _ _ (by simp))
 have HW1 := Lib.hid hW1
 clear hW1
 have Hb1 := Lib.hid (show IsBook W1 (.agg #[.slice A1 B.rg.length c1, .slice A2 B.hm.length c2, .slice A3 B.pd.length c3, .slice A4 B.dr.length c4, .int .i64 B.sq, .int .i64 B.bs, .int .i64 B.sf, .int .i64 B.at_, .int .i64 B.df]) B from ⟨_, _, _, _, _, _, _, _, rfl, H.out.next B1⟩)
 go_enter Tryz.func17, Tryz.ntmps17
 go_wp2_with fail
 rw [HW1.out]
 refine (bookOk_spec _ B sm W1 Hb1.out).mono ?_
 rintro e w1 ⟨rfl, hb1⟩
 have B2 := belN B1 hb1
 have s1 := hb1.size
 have V2 := Lib.hid (V1.out.below hb1 V1.out.lt)
 have Q2 := Lib.hid (Q1.out.below hb1 Q1.out.lt)
 have R2 := Lib.hid (R1.out.below hb1 R1.out.lt)
 have Hb2 := Lib.hid (Hb1.out.next hb1)
 clear V1 Q1 R1 Hb1
 rcases hok : bookOkB B with _ | _
 ·have Hf := Lib.hid (doBk_bad (k := k) (s := s) (i := i) hok)
  clear hok
  obtain ⟨q0, q1, q2, q3, q4, q5, q6, q7, q8⟩ := R2.out.g9
  obtain ⟨p0, p1, p2, p3, p4, p5, p6, p7, p8⟩ := R2.out.f9
  have l2 := R2.out.lt
  go_wp2
  obtain ⟨w9, h9, hB9, s9, hb9, ho9⟩ := put9 w1 (w.heap.size + 2) 28 (.slice none 0 0) (.slice none 0 0) (.slice none 0 0) (.slice none 0 0) (.int .i64 0) (.int .i64 0) (.int .i64 0) (.int .i64 0) (.int .i64 0) (.slice none 0 0) (.slice none 0 0) (.slice none 0 0) (.slice none 0 0) (.int .i64 0) (.int .i64 0) (.int .i64 0) (.int .i64 0) (.int .i64 0) R2.out
  rw [h9]
  clear h9 l2 q0 q1 q2 q3 q4 q5 q6 q7 q8 p0 p1 p2 p3 p4 p5 p6 p7 p8
  obtain ⟨r0, r1, r2, r3, r4, r5, r6, r7, r8⟩ := hB9.g9
  refine bodyPost_ret (v := .tuple #[.agg zB_, .bool false]) (by simp [results, Tryz.results17, go_sem, r0, r1, r2, r3, r4, r5, r6, r7, r8]) rfl ⟨⟨zeroBk, false, _, Hf.out, rfl, zero_own _ _⟩, hb9 _ _ (by omega) B2⟩
 have HP := Lib.hid (bk_is hok)
 have Hok := Lib.hid hok
 clear hok
 have h6 := HP.out.r
 have h2 := HP.out.h
 have hq := HP.out.q
 have hd := dir12 HP.out.d
 have Hlen := Lib.hid (show B.rg.length ≤ 100000 ∧ B.hm.length ≤ 100000 ∧ B.pd.length ≤ 100000 ∧ B.dr.length ≤ 100000 by omega)
 have H6 := Lib.hid h6
 have H2 := Lib.hid h2
 have hpn : B.pd.length ≤ 20 := hq
 have hbs := inI_t.1 HP.out.b
 have hf1 := HP.out.f
 have hm1 := HP.out.m
 have hs6 := HP.out.s
 have hdn : B.dr.length ≤ 12 := hd
 clear h6 h2 hq hd
 obtain ⟨x0, x1, x2, x3, x4, x5, x6, x7, x8⟩ := V2.out.g9
 have l1 := V2.out.lt
 obtain ⟨y0, y1, y2, y3, y4, y5, y6, y7, y8⟩ := V2.out.f9
 go_wp2_with fail
 clear l1 x0 x1 x2 x3 x4 x5 x6 x7 x8 y0 y1 y2 y3 y4 y5 y6 y7 y8
 refine (l25Copy_any _ B Hlen.out w1 Hb2.out).mono ?_
 rintro e w2 ⟨v', rfl, hO, hb2⟩
 have HIn := Lib.hid (own_bk_in hO)
 obtain ⟨_, _, _, _, ⟨F1, e1, F2, e2, A3', c3', A4', c4', rfl, rfl, rfl, rfl, rfl⟩, o1, o2, o3, o4, d12, d13, d14, d23, d24, d34⟩ := hO
 obtain ⟨g1, k1, he⟩ := own_form1 o1 (by have := H6.out; omega)
 simp only [Value.slice.injEq] at he
 obtain ⟨rfl, _, rfl⟩ := he
 obtain ⟨g2, k2, he⟩ := own_form1 o2 (by have := H2.out; omega)
 simp only [Value.slice.injEq] at he
 obtain ⟨rfl, _, rfl⟩ := he
 rw [H6.out] at o1 d12 d13 HIn ⊢
 rw [H2.out] at o2 d12 d23 HIn ⊢
 have B3 := belN B2 hb2
 have s2 := hb2.size
 have R3 := Lib.hid (R2.out.below hb2 R2.out.lt)
 have Q3 := Lib.hid (Q2.out.below hb2 Q2.out.lt)
 have V3 := Lib.hid (V2.out.below hb2 V2.out.lt)
 have Hb3 := Lib.hid (Hb2.out.next hb2)
 have lr := R2.out.lt
 clear R2 V2 Q2 Hb2
 have O1 := Lib.hid o1
 have O2 := Lib.hid o2
 have O3 := Lib.hid o3
 have O4 := Lib.hid o4
 have DD := Lib.hid (show _ ∧ _ ∧ _ from ⟨d12, d13, d23⟩)
 clear o1 o2 o3 o4 d12 d13 d14 d23 d24 d34
 obtain ⟨x0, x1, x2, x3, x4, x5, x6, x7, x8⟩ := V3.out.g9
 obtain ⟨y0, y1, y2, y3, y4, y5, y6, y7, y8⟩ := V3.out.f9
 have l1 := V3.out.lt
 obtain ⟨W3, h3, hG3, s3, hb3, ho3⟩ := put9n w2 w.heap.size 28 (.slice (some ⟨g1, 0, none⟩) 6 e1) (.slice (some ⟨g2, 0, none⟩) 2 e2) (.slice A3' B.pd.length c3') (.slice A4' B.dr.length c4') (.int .i64 B.sq) (.int .i64 B.bs) (.int .i64 B.sf) (.int .i64 B.at_) (.int .i64 B.df) (.slice A1 B.rg.length c1) (.slice A2 B.hm.length c2) (.slice A3 B.pd.length c3) (.slice A4 B.dr.length c4) (.int .i64 B.sq) (.int .i64 B.bs) (.int .i64 B.sf) (.int .i64 B.at_) (.int .i64 B.df) V3.out
 have hG := Lib.hid hG3
 have HW3 := Lib.hid h3
 clear h3 hG3
 go_upto_region 4 with fail
 rw [HW3.out]
 clear HW3 l1 x0 x1 x2 x3 x4 x5 x6 x7 x8 y0 y1 y2 y3 y4 y5 y6 y7 y8
 have P1 := Lib.hid (own_eqN O1.out (fun k hk => ho3 k (by have := own_lo O1.out k hk; omega)))
 have P2 := Lib.hid (own_eqN O2.out (fun k hk => ho3 k (by have := own_lo O2.out k hk; omega)))
 have P3 := Lib.hid (own_eqN O3.out (fun k hk => ho3 k (by have := own_lo O3.out k hk; omega)))
 have P4 := Lib.hid (own_eqN O4.out (fun k hk => ho3 k (by have := own_lo O4.out k hk; omega)))
 have NG1 := Lib.hid (show ∀ k, (.slice (some ⟨g1, 0, none⟩) 6 e1 : Value).ownBlock = some k → k ≠ w.heap.size from fun k hk => by have := own_lo O1.out k hk; omega)
 have NG2 := Lib.hid (show ∀ k, (.slice (some ⟨g2, 0, none⟩) 2 e2 : Value).ownBlock = some k → k ≠ w.heap.size from fun k hk => by have := own_lo O2.out k hk; omega)
 have NG3 := Lib.hid (show ∀ k, (.slice A3' B.pd.length c3' : Value).ownBlock = some k → k ≠ w.heap.size from fun k hk => by have := own_lo O3.out k hk; omega)
 have HIn3 := Lib.hid (show InAt _ w1.heap.size w2.heap.size W3 from ⟨by omega, fun w' h1 h2 => HIn.out.2 w' h1 (fun j h4 h5 => (h2 j h4 h5).trans (ho3 j (by omega)))⟩)
 have R4 := Lib.hid (R3.out.eqN (ho3 _ (by omega)))
 have Q4 := Lib.hid (Q3.out.eqN (ho3 _ (by omega)))
 have B4 : Below w.heap.size w W3 := hb3 _ _ (Nat.le_refl _) B3
 have V4 := hG
 obtain ⟨⟨L, b⟩, hdo⟩ : ∃ p, doP B.dr k s i = p := ⟨_, rfl⟩
 have Hdo := Lib.hid hdo
 have hdr := Lib.hid (OwnS.isS (xs := B.dr) P4.out)
 clear O1 O2 O3 O4 R3 Q3 V3 HIn Hb3
 obtain ⟨x0, x1, x2, x3, x4, x5, x6, x7, x8⟩ := hG.out.g9
 obtain ⟨z0, z1, z2⟩ := Q4.out.g3
 have l1 := hG.out.lt
 have l2 := Q4.out.lt
 go_wp2_with fail
 clear x0 x1 x2 x3 x4 x5 x6 x7 x8 z0 z1 z2 l1 l2
 refine (opDo_spec _ B.dr (by unfold szBk at sm; omega) k s i hs Hdo.out W3 hdr.out).mono ?_
 rintro e w4 ⟨v4, lo4, hi4, rfl, hlo4, hin4, hb4⟩
 have own4 : w4.ownsRow lo4 66 4 v4 L.length (ES L) := hin4.is
 obtain ⟨A5, c5, rfl, _⟩ := own_vals own4
 have NL1 := Lib.hid (own_hi P1.out)
 have NL2 := Lib.hid (own_hi P2.out)
 have NL3 := Lib.hid (own_hi P3.out)
 have B5 := belN B4 hb4
 have s4 := hb4.size
 have U1 := Lib.hid (own_below P1.out hb4 (Nat.le_refl _))
 have U2 := Lib.hid (own_below P2.out hb4 (Nat.le_refl _))
 have U3 := Lib.hid (own_below P3.out hb4 (Nat.le_refl _))
 have D4 := Lib.hid own4
 have HIn4 := Lib.hid (HIn3.out.next hb4)
 have R5 := Lib.hid (R4.out.below hb4 R4.out.lt)
 have Q5 := Lib.hid (Q4.out.below hb4 Q4.out.lt)
 have hG4 := Lib.hid (hG.out.below hb4 hG.out.lt)
 have V5 := Lib.hid (V4.out.below hb4 V4.out.lt)
 clear P1 P2 P3 own4 HIn3 R4 Q4 V4 hG hin4 hdr
 obtain ⟨z0, z1, z2⟩ := Q5.out.g3
 have l2 := Q5.out.lt
 go_wp2_with fail
 clear z0 z1 z2 l2
 refine (opOk_spec k s i hs w4 ).mono ?_
 rintro e w5 ⟨rfl, hb5⟩
 have B6 := belN B5 hb5
 have s5 := hb5.size
 have P1 := Lib.hid (own_below U1.out hb5 (Nat.le_refl _))
 have P2 := Lib.hid (own_below U2.out hb5 (Nat.le_refl _))
 have P3 := Lib.hid (own_below U3.out hb5 (Nat.le_refl _))
 have D5 := Lib.hid (own_below D4.out hb5 (Nat.le_refl _))
 have HIn5 := Lib.hid (HIn4.out.next hb5)
 have R6 := Lib.hid (R5.out.below hb5 R5.out.lt)
 have Q6 := Lib.hid (Q5.out.below hb5 Q5.out.lt)
 have hG5 := Lib.hid (hG4.out.below hb5 hG4.out.lt)
 have V6 := Lib.hid (V5.out.below hb5 V5.out.lt)
 clear U1 U2 U3 D4 HIn4 R5 Q5 V5 hG4
 have wb6 : IntKind.i64.wrap (B.bs + 6) = B.bs + 6 := by rw [IntKind.wrap_i64]; omega
 have wq1 : IntKind.i64.wrap (B.sq + 1) = B.sq + 1 := by rw [IntKind.wrap_i64]; omega
 have wsb : IntKind.i64.wrap (B.sq - B.bs) = B.sq - B.bs := by rw [IntKind.wrap_i64]; omega
 rcases ho : opOkB k s i with _ | _
 ·skip
  have Hf := Lib.hid (doBk_no Hok.out (k := k) (s := s) (i := i) (by rintro ⟨h, _⟩; rw [ho] at h; cases h))
  clear ho
  obtain ⟨x0, x1, x2, x3, x4, x5, x6, x7, x8⟩ := hG5.out.g9
  have l1 := hG5.out.lt
  obtain ⟨q0, q1, q2, q3, q4, q5, q6, q7, q8⟩ := R6.out.g9
  obtain ⟨p0, p1, p2, p3, p4, p5, p6, p7, p8⟩ := R6.out.f9
  have l2 := R6.out.lt
  go_wp2
  obtain ⟨w9, h9, hB9, s9, hb9, ho9⟩ := put9n w5 (w.heap.size + 2) 28 (.slice (some ⟨g1, 0, none⟩) 6 e1) (.slice (some ⟨g2, 0, none⟩) 2 e2) (.slice A3' B.pd.length c3') (.slice A4' B.dr.length c4') (.int .i64 B.sq) (.int .i64 B.bs) (.int .i64 B.sf) (.int .i64 B.at_) (.int .i64 B.df) (.slice none 0 0) (.slice none 0 0) (.slice none 0 0) (.slice none 0 0) (.int .i64 0) (.int .i64 0) (.int .i64 0) (.int .i64 0) (.int .i64 0) R6.out
  rw [h9]
  clear h9 l1 l2 x0 x1 x2 x3 x4 x5 x6 x7 x8 q0 q1 q2 q3 q4 q5 q6 q7 q8 p0 p1 p2 p3 p4 p5 p6 p7 p8
  obtain ⟨r0, r1, r2, r3, r4, r5, r6, r7, r8⟩ := hB9.g9
  have hO9 := HIn5.out.2 w9 (by have := HIn5.out.1; omega) (fun j h1 h2 => ho9 j (by omega))
  refine bodyPost_ret (v := .tuple #[.agg #[.slice (some ⟨g1, 0, none⟩) 6 e1, .slice (some ⟨g2, 0, none⟩) 2 e2, .slice A3' B.pd.length c3', .slice A4' B.dr.length c4', .int .i64 B.sq, .int .i64 B.bs, .int .i64 B.sf, .int .i64 B.at_, .int .i64 B.df], .bool false]) (by simp [results, Tryz.results17, go_sem, r0, r1, r2, r3, r4, r5, r6, r7, r8]) rfl ⟨⟨B, false, _, Hf.out, rfl, own_bk_more hO9 (by omega)⟩, hb9 _ _ (by omega) B6⟩
 have Ho := Lib.hid ho
 clear ho
 rcases b with _ | _
 ·skip
  have Hf := Lib.hid (doBk_no Hok.out (k := k) (s := s) (i := i) (by rintro ⟨_, h, _⟩; rw [Hdo.out] at h; cases h))
  obtain ⟨x0, x1, x2, x3, x4, x5, x6, x7, x8⟩ := hG5.out.g9
  have l1 := hG5.out.lt
  obtain ⟨q0, q1, q2, q3, q4, q5, q6, q7, q8⟩ := R6.out.g9
  obtain ⟨p0, p1, p2, p3, p4, p5, p6, p7, p8⟩ := R6.out.f9
  have l2 := R6.out.lt
  go_wp2
  obtain ⟨w9, h9, hB9, s9, hb9, ho9⟩ := put9n w5 (w.heap.size + 2) 28 (.slice (some ⟨g1, 0, none⟩) 6 e1) (.slice (some ⟨g2, 0, none⟩) 2 e2) (.slice A3' B.pd.length c3') (.slice A4' B.dr.length c4') (.int .i64 B.sq) (.int .i64 B.bs) (.int .i64 B.sf) (.int .i64 B.at_) (.int .i64 B.df) (.slice none 0 0) (.slice none 0 0) (.slice none 0 0) (.slice none 0 0) (.int .i64 0) (.int .i64 0) (.int .i64 0) (.int .i64 0) (.int .i64 0) R6.out
  rw [h9]
  clear h9 l1 l2 x0 x1 x2 x3 x4 x5 x6 x7 x8 q0 q1 q2 q3 q4 q5 q6 q7 q8 p0 p1 p2 p3 p4 p5 p6 p7 p8
  obtain ⟨r0, r1, r2, r3, r4, r5, r6, r7, r8⟩ := hB9.g9
  have hO9 := HIn5.out.2 w9 (by have := HIn5.out.1; omega) (fun j h1 h2 => ho9 j (by omega))
  refine bodyPost_ret (v := .tuple #[.agg #[.slice (some ⟨g1, 0, none⟩) 6 e1, .slice (some ⟨g2, 0, none⟩) 2 e2, .slice A3' B.pd.length c3', .slice A4' B.dr.length c4', .int .i64 B.sq, .int .i64 B.bs, .int .i64 B.sf, .int .i64 B.at_, .int .i64 B.df], .bool false]) (by simp [results, Tryz.results17, go_sem, r0, r1, r2, r3, r4, r5, r6, r7, r8]) rfl ⟨⟨B, false, _, Hf.out, rfl, own_bk_more hO9 (by omega)⟩, hb9 _ _ (by omega) B6⟩
 by_cases hc1 : B.sq < B.bs + 6
 rotate_left
 ·skip
  have Hf := Lib.hid (doBk_no Hok.out (k := k) (s := s) (i := i) (by rintro ⟨_, _, h, _⟩; exact hc1 h))
  have eq1 : B.sq - B.bs ≥ 6 := by omega
  have eq1b : (6 : Int) ≤ B.sq - B.bs := by omega
  obtain ⟨x0, x1, x2, x3, x4, x5, x6, x7, x8⟩ := hG5.out.g9
  have l1 := hG5.out.lt
  obtain ⟨q0, q1, q2, q3, q4, q5, q6, q7, q8⟩ := R6.out.g9
  obtain ⟨p0, p1, p2, p3, p4, p5, p6, p7, p8⟩ := R6.out.f9
  have l2 := R6.out.lt
  go_wp2
  obtain ⟨w9, h9, hB9, s9, hb9, ho9⟩ := put9n w5 (w.heap.size + 2) 28 (.slice (some ⟨g1, 0, none⟩) 6 e1) (.slice (some ⟨g2, 0, none⟩) 2 e2) (.slice A3' B.pd.length c3') (.slice A4' B.dr.length c4') (.int .i64 B.sq) (.int .i64 B.bs) (.int .i64 B.sf) (.int .i64 B.at_) (.int .i64 B.df) (.slice none 0 0) (.slice none 0 0) (.slice none 0 0) (.slice none 0 0) (.int .i64 0) (.int .i64 0) (.int .i64 0) (.int .i64 0) (.int .i64 0) R6.out
  rw [h9]
  clear h9 l1 l2 x0 x1 x2 x3 x4 x5 x6 x7 x8 q0 q1 q2 q3 q4 q5 q6 q7 q8 p0 p1 p2 p3 p4 p5 p6 p7 p8
  obtain ⟨r0, r1, r2, r3, r4, r5, r6, r7, r8⟩ := hB9.g9
  have hO9 := HIn5.out.2 w9 (by have := HIn5.out.1; omega) (fun j h1 h2 => ho9 j (by omega))
  refine bodyPost_ret (v := .tuple #[.agg #[.slice (some ⟨g1, 0, none⟩) 6 e1, .slice (some ⟨g2, 0, none⟩) 2 e2, .slice A3' B.pd.length c3', .slice A4' B.dr.length c4', .int .i64 B.sq, .int .i64 B.bs, .int .i64 B.sf, .int .i64 B.at_, .int .i64 B.df], .bool false]) (by simp [results, Tryz.results17, go_sem, r0, r1, r2, r3, r4, r5, r6, r7, r8]) rfl ⟨⟨B, false, _, Hf.out, rfl, own_bk_more hO9 (by omega)⟩, hb9 _ _ (by omega) B6⟩
 have eq1 : ¬ (B.sq - B.bs ≥ 6) := by omega
 have eq1b : ¬ ((6 : Int) ≤ B.sq - B.bs) := by omega
 by_cases hc2 : B.sq < 1000000
 rotate_left
 ·skip
  have Hf := Lib.hid (doBk_no Hok.out (k := k) (s := s) (i := i) (by rintro ⟨_, _, _, h, _⟩; exact hc2 h))
  have eq2 : B.sq ≥ 1000000 := by omega
  have eq2b : (1000000 : Int) ≤ B.sq := by omega
  obtain ⟨x0, x1, x2, x3, x4, x5, x6, x7, x8⟩ := hG5.out.g9
  have l1 := hG5.out.lt
  obtain ⟨q0, q1, q2, q3, q4, q5, q6, q7, q8⟩ := R6.out.g9
  obtain ⟨p0, p1, p2, p3, p4, p5, p6, p7, p8⟩ := R6.out.f9
  have l2 := R6.out.lt
  go_wp2
  obtain ⟨w9, h9, hB9, s9, hb9, ho9⟩ := put9n w5 (w.heap.size + 2) 28 (.slice (some ⟨g1, 0, none⟩) 6 e1) (.slice (some ⟨g2, 0, none⟩) 2 e2) (.slice A3' B.pd.length c3') (.slice A4' B.dr.length c4') (.int .i64 B.sq) (.int .i64 B.bs) (.int .i64 B.sf) (.int .i64 B.at_) (.int .i64 B.df) (.slice none 0 0) (.slice none 0 0) (.slice none 0 0) (.slice none 0 0) (.int .i64 0) (.int .i64 0) (.int .i64 0) (.int .i64 0) (.int .i64 0) R6.out
  rw [h9]
  clear h9 l1 l2 x0 x1 x2 x3 x4 x5 x6 x7 x8 q0 q1 q2 q3 q4 q5 q6 q7 q8 p0 p1 p2 p3 p4 p5 p6 p7 p8
  obtain ⟨r0, r1, r2, r3, r4, r5, r6, r7, r8⟩ := hB9.g9
  have hO9 := HIn5.out.2 w9 (by have := HIn5.out.1; omega) (fun j h1 h2 => ho9 j (by omega))
  refine bodyPost_ret (v := .tuple #[.agg #[.slice (some ⟨g1, 0, none⟩) 6 e1, .slice (some ⟨g2, 0, none⟩) 2 e2, .slice A3' B.pd.length c3', .slice A4' B.dr.length c4', .int .i64 B.sq, .int .i64 B.bs, .int .i64 B.sf, .int .i64 B.at_, .int .i64 B.df], .bool false]) (by simp [results, Tryz.results17, go_sem, r0, r1, r2, r3, r4, r5, r6, r7, r8]) rfl ⟨⟨B, false, _, Hf.out, rfl, own_bk_more hO9 (by omega)⟩, hb9 _ _ (by omega) B6⟩
 have eq2 : ¬ (B.sq ≥ 1000000) := by omega
 have eq2b : ¬ ((1000000 : Int) ≤ B.sq) := by omega
 by_cases hc3 : B.pd.length < 20
 rotate_left
 ·skip
  have Hf := Lib.hid (doBk_no Hok.out (k := k) (s := s) (i := i) (by rintro ⟨_, _, _, _, h⟩; exact hc3 h))
  have eq3 : ((B.pd.length : Nat) : Int) ≥ 20 := by omega
  have eq3b : (20 : Int) ≤ ((B.pd.length : Nat) : Int) := by omega
  obtain ⟨x0, x1, x2, x3, x4, x5, x6, x7, x8⟩ := hG5.out.g9
  have l1 := hG5.out.lt
  obtain ⟨q0, q1, q2, q3, q4, q5, q6, q7, q8⟩ := R6.out.g9
  obtain ⟨p0, p1, p2, p3, p4, p5, p6, p7, p8⟩ := R6.out.f9
  have l2 := R6.out.lt
  go_wp2
  obtain ⟨w9, h9, hB9, s9, hb9, ho9⟩ := put9n w5 (w.heap.size + 2) 28 (.slice (some ⟨g1, 0, none⟩) 6 e1) (.slice (some ⟨g2, 0, none⟩) 2 e2) (.slice A3' B.pd.length c3') (.slice A4' B.dr.length c4') (.int .i64 B.sq) (.int .i64 B.bs) (.int .i64 B.sf) (.int .i64 B.at_) (.int .i64 B.df) (.slice none 0 0) (.slice none 0 0) (.slice none 0 0) (.slice none 0 0) (.int .i64 0) (.int .i64 0) (.int .i64 0) (.int .i64 0) (.int .i64 0) R6.out
  rw [h9]
  clear h9 l1 l2 x0 x1 x2 x3 x4 x5 x6 x7 x8 q0 q1 q2 q3 q4 q5 q6 q7 q8 p0 p1 p2 p3 p4 p5 p6 p7 p8
  obtain ⟨r0, r1, r2, r3, r4, r5, r6, r7, r8⟩ := hB9.g9
  have hO9 := HIn5.out.2 w9 (by have := HIn5.out.1; omega) (fun j h1 h2 => ho9 j (by omega))
  refine bodyPost_ret (v := .tuple #[.agg #[.slice (some ⟨g1, 0, none⟩) 6 e1, .slice (some ⟨g2, 0, none⟩) 2 e2, .slice A3' B.pd.length c3', .slice A4' B.dr.length c4', .int .i64 B.sq, .int .i64 B.bs, .int .i64 B.sf, .int .i64 B.at_, .int .i64 B.df], .bool false]) (by simp [results, Tryz.results17, go_sem, r0, r1, r2, r3, r4, r5, r6, r7, r8]) rfl ⟨⟨B, false, _, Hf.out, rfl, own_bk_more hO9 (by omega)⟩, hb9 _ _ (by omega) B6⟩
 have eq3 : ¬ (((B.pd.length : Nat) : Int) ≥ 20) := by omega
 have eq3b : ¬ ((20 : Int) ≤ ((B.pd.length : Nat) : Int)) := by omega
 have Hf := Lib.hid (doBk_yes Hok.out (k := k) (s := s) (i := i) ⟨Ho.out, by rw [Hdo.out], hc1, hc2, hc3⟩)
 obtain ⟨xo, hxo⟩ : ∃ t, showOpB k s i = t := ⟨_, rfl⟩
 obtain ⟨tx, htx⟩ : ∃ t, showRecB (B.sq + 1) xo = t := ⟨_, rfl⟩
 have hsz : xo.size ≤ 9223372036854775807 := by have h1 := opOk_size Ho.out; have h2 := varB_size k; have h3 := varB_size i; rw [← hxo]; unfold showOpB; rw [if_pos Ho.out, ByteArray.size_append, ByteArray.size_append]; omega
 have H8 := Lib.hid (fun W => by have h := showOp_spec k s i hs W; rw [hxo] at h; exact h)
 have H10 := Lib.hid (fun W => by have h := showRec_spec (B.sq + 1) xo W hsz; rw [htx] at h; exact h)
 rw [hxo, htx, Hdo.out] at Hf
 have Hf2 := Lib.hid Hf.out
 clear Hf hxo htx hsz Hdo Ho
 have u2 := hG5.out.get 2 rfl
 have u5 := hG5.out.get 5 rfl
 have l3 := hG5.out.lt
 have x3 := hG5.out.get 3 rfl
 have x4 := hG5.out.get 4 rfl
 have y3 := hG5.out.frozen 3
 have y4 := hG5.out.frozen 4
 have l1 := hG5.out.lt
 have mt : (B.sq + 1).tmod 6 = (B.sq + 1) % 6 := Int.tmod_eq_emod_of_nonneg (by omega)
 go_upto_region 9 with fail
 obtain ⟨wb, hwb⟩ : ∃ W, (w5.setCell ⟨w.heap.size, 3, none⟩ (.slice A5 L.length c5)).setCell ⟨w.heap.size, 4, none⟩ (.int .i64 (B.sq + 1)) = W := ⟨_, rfl⟩
 rw [hwb]
 have hGb := Lib.hid (show Blk wb w.heap.size 28 #[.slice (some ⟨g1, 0, none⟩) 6 e1, .slice (some ⟨g2, 0, none⟩) 2 e2, .slice A3' B.pd.length c3', .slice A5 L.length c5, .int .i64 (B.sq + 1), .int .i64 B.bs, .int .i64 B.sf, .int .i64 B.at_, .int .i64 B.df] by rw [← hwb]; exact (hG5.out.put 3 (.slice A5 L.length c5) #[.slice (some ⟨g1, 0, none⟩) 6 e1, .slice (some ⟨g2, 0, none⟩) 2 e2, .slice A3' B.pd.length c3', .slice A5 L.length c5, .int .i64 B.sq, .int .i64 B.bs, .int .i64 B.sf, .int .i64 B.at_, .int .i64 B.df] rfl).put 4 (.int .i64 (B.sq + 1)) #[.slice (some ⟨g1, 0, none⟩) 6 e1, .slice (some ⟨g2, 0, none⟩) 2 e2, .slice A3' B.pd.length c3', .slice A5 L.length c5, .int .i64 (B.sq + 1), .int .i64 B.bs, .int .i64 B.sf, .int .i64 B.at_, .int .i64 B.df] rfl)
 have Gge : w.heap.size ≤ w.heap.size ∧ w.heap.size ≠ w.heap.size + 1 ∧ w.heap.size ≠ w.heap.size + 2 := by omega
 have K1 := Lib.hid (show wb.ownsRow w1.heap.size 9 1 (.slice (some ⟨g1, 0, none⟩) 6 e1) 6 (SS B.rg) by rw [← hwb]; exact own_scN (own_scN P1.out 3 NG1.out (.slice A5 L.length c5)) 4 NG1.out _)
 have K2 := Lib.hid (show wb.ownsRow w1.heap.size 9 1 (.slice (some ⟨g2, 0, none⟩) 2 e2) 2 (SS B.hm) by rw [← hwb]; exact own_scN (own_scN P2.out 3 NG2.out (.slice A5 L.length c5)) 4 NG2.out _)
 have K3 := Lib.hid (show wb.ownsRow w1.heap.size 55 2 (.slice A3' B.pd.length c3') B.pd.length (RS B.pd) by rw [← hwb]; exact own_scN (own_scN P3.out 3 NG3.out (.slice A5 L.length c5)) 4 NG3.out _)
 have D6 := Lib.hid (show wb.ownsRow lo4 66 4 (.slice A5 L.length c5) L.length (ES L) by rw [← hwb]; exact own_sc (own_sc D5.out 3 (by omega) (.slice A5 L.length c5)) 4 (by omega) _)
 have Q7 := Lib.hid (show Blk wb (w.heap.size + 1) 32 #[.int .i64 k, .string s, .int .i64 i] by rw [← hwb]; exact (Q6.out.far (p := ⟨w.heap.size, 3, none⟩) (fun e => Gge.2.1 e.symm) (.slice A5 L.length c5)).far (p := ⟨w.heap.size, 4, none⟩) (fun e => Gge.2.1 e.symm) _)
 have R7 := Lib.hid (show Blk wb (w.heap.size + 2) 28 zB_ by rw [← hwb]; exact (R6.out.far (p := ⟨w.heap.size, 3, none⟩) (fun e => Gge.2.2 e.symm) (.slice A5 L.length c5)).far (p := ⟨w.heap.size, 4, none⟩) (fun e => Gge.2.2 e.symm) _)
 have Bb : Below w.heap.size w wb := by rw [← hwb]; exact (B6.setCell (p := ⟨w.heap.size, 3, none⟩) Gge.1 (.slice A5 L.length c5)).setCell (p := ⟨w.heap.size, 4, none⟩) Gge.1 _
 have sb : wb.heap.size = w5.heap.size := by rw [← hwb]; simp
 clear hwb x3 x4 y3 y4 l1 u2 u5 l3 P1 P2 P3 D5 Q6 R6 hG5 HIn5 V6
 have g4 := hGb.out.get (x := .int .i64 (B.sq + 1)) 4 rfl
 have g2 := hGb.out.get (x := .slice A3' B.pd.length c3') 2 rfl
 have z0 := Q7.out.get (x := .int .i64 k) 0 rfl
 have z1 := Q7.out.get (x := .string s) 1 rfl
 have z2 := Q7.out.get (x := .int .i64 i) 2 rfl
 refine wp_region_held_drew (S := fun w' => w'.cell? ⟨w.heap.size, 4, none⟩ = some (.int .i64 (B.sq + 1)) ∧ w'.cell? ⟨w.heap.size + 1, 0, none⟩ = some (.int .i64 k) ∧ w'.cell? ⟨w.heap.size + 1, 1, none⟩ = some (.string s) ∧ w'.cell? ⟨w.heap.size + 1, 2, none⟩ = some (.int .i64 i)) (by kernel_rfl) (by exact ⟨g4, z0, z1, z2⟩) (fun hHeld => ?_)
 clear hHeld
 refine foldH ?_
 intro r hr0
 have bw : Below wb.heap.size wb r := by rw [hr0]; exact (bel0 wb).drew
 clear hr0
 apply mem3_nw (P := fun aLw q => Below wb.heap.size wb q ∧ q.ownsRow wb.heap.size 55 2 (.slice (some ⟨aLw, 0, none⟩) (1) 1) (1) (RS [((B.sq + 1) % 6, tx)]))
 case use =>
  intro key_bds_1_8_10_12
  apply mem3_nw (P := fun aLw q => Below wb.heap.size wb q ∧ q.ownsRow wb.heap.size 55 2 (.slice (some ⟨aLw, 0, none⟩) (1) 1) (1) (RS [((B.sq + 1) % 6, tx)]))
  case use =>
   intro key_bds_8_10_12
   apply mem3_w (P := fun  q => Below wb.heap.size wb q)
   case use =>
    intro key_bds_1_8_10
    apply mem3_w (P := fun  q => Below wb.heap.size wb q)
    case use =>
     intro key_bds_8_10
     apply mem3_w (P := fun  q => Below wb.heap.size wb q)
     case use =>
      intro key_bds_1_8
      apply mem3_w (P := fun  q => Below wb.heap.size wb q)
      case use =>
       intro key_bds_8
       apply mem3_w (P := fun  q => Below wb.heap.size wb q)
       case use =>
        intro key_bds_1
        refine tkV_ 0 (v := ?v20001) ?hy20001 ?hS20001 ?hr20001
        case hS20001 => exact ⟨keep1 bw g4, keep1 bw z0, keep1 bw z1, keep1 bw z2⟩
        case hy20001 => refine Or.inl ⟨by rfl, ?_⟩; intro w hSw; (try dsimp only at hSw); go_simp; (try with_reducible rfl)
        simp only [Act.put, pT_, pZ_, pS_]
        refine tkV_ 2 (v := ?v20002) ?hy20002 ?hS20002 ?hr20002
        case hS20002 => exact ⟨keep1 bw g4, keep1 bw z0, keep1 bw z1, keep1 bw z2⟩
        case hy20002 => refine Or.inl ⟨by rfl, ?_⟩; intro w hSw; (try dsimp only at hSw); go_simp; (try with_reducible rfl)
        simp only [Act.put, pT_, pZ_, pS_]
        refine tkV_ 3 (v := ?v20003) ?hy20003 ?hS20003 ?hr20003
        case hS20003 => exact ⟨keep1 bw g4, keep1 bw z0, keep1 bw z1, keep1 bw z2⟩
        case hy20003 => refine Or.inl ⟨by rfl, ?_⟩; intro w hSw; (try dsimp only at hSw); go_simp; (try with_reducible rfl)
        simp only [Act.put, pT_, pZ_, pS_]
        refine tkV_ 4 (v := ?v20004) ?hy20004 ?hS20004 ?hr20004
        case hS20004 => exact ⟨keep1 bw g4, keep1 bw z0, keep1 bw z1, keep1 bw z2⟩
        case hy20004 => refine Or.inl ⟨by rfl, ?_⟩; intro w hSw; (try dsimp only at hSw); go_simp; (try with_reducible rfl)
        simp only [Act.put, pT_, pZ_, pS_]
        refine tkV_ 5 (v := ?v20005) ?hy20005 ?hS20005 ?hr20005
        case hS20005 => exact ⟨keep1 bw g4, keep1 bw z0, keep1 bw z1, keep1 bw z2⟩
        case hy20005 => refine Or.inl ⟨by rfl, ?_⟩; intro w hSw; (try dsimp only at hSw); go_simp; (try with_reducible rfl)
        simp only [Act.put, pT_, pZ_, pS_]
        refine tkV_ 6 (v := ?v20006) ?hy20006 ?hS20006 ?hr20006
        case hS20006 => exact ⟨keep1 bw g4, keep1 bw z0, keep1 bw z1, keep1 bw z2⟩
        case hy20006 => refine Or.inl ⟨by rfl, ?_⟩; intro w hSw; (try dsimp only at hSw); go_simp; (try with_reducible rfl)
        simp only [Act.put, pT_, pZ_, pS_]
        refine tkV_ 7 (v := ?v20007) ?hy20007 ?hS20007 ?hr20007
        case hS20007 => exact ⟨keep1 bw g4, keep1 bw z0, keep1 bw z1, keep1 bw z2⟩
        case hy20007 => refine Or.inl ⟨by rfl, ?_⟩; intro w hSw; (try dsimp only at hSw); go_simp; (try with_reducible rfl)
        simp only [Act.put, pT_, pZ_, pS_]
        refine wpAnyH_ready (rs := [1, 8]) (by kernel_rfl) (by simp) ?_
        refine AllReadyH.cons (o := ?oi20008) ?hi20008 (fun K hK => ?br20008) (AllReadyH.cons (o := ?oi20009) ?hi20009 (fun K hK => ?br20009) AllReadyH.nil)
        case hi20008 => (conv => lhs; simp only [gT_, gZ_, gS_]); try exact rfl
        case hi20009 => (conv => lhs; simp only [gT_, gZ_, gS_]); try exact rfl
        case br20008 =>
         have x_0 := keep1 bw g2
         go_simp
         refine hK.out _ _ (by exact ⟨keep1 bw g4, keep1 bw z0, keep1 bw z1, keep1 bw z2⟩) (fun _ => ?_)
         clear hK K
         try simp only [Act.put, pT_, pZ_, pS_]
         have bw2 := bw
         exact key_bds_1  r bw2
        case br20009 =>
         go_simp
         go_at_call 47
         refine (H8.out _).mono ?_
         rintro e q ⟨rfl, hb⟩
         have bw2 := bw.trans (hb.mono bw.size)
         refine hK.out _ _ (by exact ⟨keep1 bw2 g4, keep1 bw2 z0, keep1 bw2 z1, keep1 bw2 z2⟩) (fun _ => ?_)
         clear hK K
         try simp only [Act.put, pT_, pZ_, pS_]
         refine tkV_ 9 (v := ?v20010) ?hy20010 ?hS20010 ?hr20010
         case hS20010 => exact ⟨keep1 bw2 g4, keep1 bw2 z0, keep1 bw2 z1, keep1 bw2 z2⟩
         case hy20010 => refine Or.inl ⟨by rfl, ?_⟩; intro w hSw; (try dsimp only at hSw); go_simp; (try with_reducible rfl)
         simp only [Act.put, pT_, pZ_, pS_]
         exact key_bds_8  q bw2
       case key =>
        rintro  r bw
        try dsimp only
        refine wpAnyH_ready (rs := [8]) (by kernel_rfl) (by simp) ?_
        refine AllReadyH.cons (o := ?oi20011) ?hi20011 (fun K hK => ?br20011) AllReadyH.nil
        case hi20011 => (conv => lhs; simp only [gT_, gZ_, gS_]); try exact rfl
        case br20011 =>
         go_simp
         go_at_call 47
         refine (H8.out _).mono ?_
         rintro e q ⟨rfl, hb⟩
         have bw2 := bw.trans (hb.mono bw.size)
         refine hK.out _ _ (by exact ⟨keep1 bw2 g4, keep1 bw2 z0, keep1 bw2 z1, keep1 bw2 z2⟩) (fun _ => ?_)
         clear hK K
         try simp only [Act.put, pT_, pZ_, pS_]
         refine tkV_ 9 (v := ?v20012) ?hy20012 ?hS20012 ?hr20012
         case hS20012 => exact ⟨keep1 bw2 g4, keep1 bw2 z0, keep1 bw2 z1, keep1 bw2 z2⟩
         case hy20012 => refine Or.inl ⟨by rfl, ?_⟩; intro w hSw; (try dsimp only at hSw); go_simp; (try with_reducible rfl)
         simp only [Act.put, pT_, pZ_, pS_]
         exact key_bds_1_8  q bw2
      case key =>
       rintro  r bw
       try dsimp only
       refine wpAnyH_ready (rs := [1, 10]) (by kernel_rfl) (by simp) ?_
       refine AllReadyH.cons (o := ?oi20013) ?hi20013 (fun K hK => ?br20013) (AllReadyH.cons (o := ?oi20014) ?hi20014 (fun K hK => ?br20014) AllReadyH.nil)
       case hi20013 => (conv => lhs; simp only [gT_, gZ_, gS_]); try exact rfl
       case hi20014 => (conv => lhs; simp only [gT_, gZ_, gS_]); try exact rfl
       case br20013 =>
        have x_0 := keep1 bw g2
        go_simp
        refine hK.out _ _ (by exact ⟨keep1 bw g4, keep1 bw z0, keep1 bw z1, keep1 bw z2⟩) (fun _ => ?_)
        clear hK K
        try simp only [Act.put, pT_, pZ_, pS_]
        have bw2 := bw
        exact key_bds_1_8  r bw2
       case br20014 =>
        go_simp
        go_at_call 46
        refine (H10.out _).mono ?_
        rintro e q ⟨rfl, hb⟩
        have bw2 := bw.trans (hb.mono bw.size)
        refine hK.out _ _ (by exact ⟨keep1 bw2 g4, keep1 bw2 z0, keep1 bw2 z1, keep1 bw2 z2⟩) (fun _ => ?_)
        clear hK K
        try simp only [Act.put, pT_, pZ_, pS_]
        refine tkV_ 11 (v := ?v20015) ?hy20015 ?hS20015 ?hr20015
        case hS20015 => exact ⟨keep1 bw2 g4, keep1 bw2 z0, keep1 bw2 z1, keep1 bw2 z2⟩
        case hy20015 => refine Or.inl ⟨by rfl, ?_⟩; intro w hSw; (try dsimp only at hSw); go_simp; (try with_reducible rfl)
        simp only [Act.put, pT_, pZ_, pS_]
        exact key_bds_8_10  q bw2
     case key =>
      rintro  r bw
      try dsimp only
      refine wpAnyH_ready (rs := [10]) (by kernel_rfl) (by simp) ?_
      refine AllReadyH.cons (o := ?oi20016) ?hi20016 (fun K hK => ?br20016) AllReadyH.nil
      case hi20016 => (conv => lhs; simp only [gT_, gZ_, gS_]); try exact rfl
      case br20016 =>
       go_simp
       go_at_call 46
       refine (H10.out _).mono ?_
       rintro e q ⟨rfl, hb⟩
       have bw2 := bw.trans (hb.mono bw.size)
       refine hK.out _ _ (by exact ⟨keep1 bw2 g4, keep1 bw2 z0, keep1 bw2 z1, keep1 bw2 z2⟩) (fun _ => ?_)
       clear hK K
       try simp only [Act.put, pT_, pZ_, pS_]
       refine tkV_ 11 (v := ?v20017) ?hy20017 ?hS20017 ?hr20017
       case hS20017 => exact ⟨keep1 bw2 g4, keep1 bw2 z0, keep1 bw2 z1, keep1 bw2 z2⟩
       case hy20017 => refine Or.inl ⟨by rfl, ?_⟩; intro w hSw; (try dsimp only at hSw); go_simp; (try with_reducible rfl)
       simp only [Act.put, pT_, pZ_, pS_]
       exact key_bds_1_8_10  q bw2
    case key =>
     rintro  r bw
     try dsimp only
     refine wpAnyH_ready (rs := [1, 12]) (by kernel_rfl) (by simp) ?_
     refine AllReadyH.cons (o := ?oi20018) ?hi20018 (fun K hK => ?br20018) (AllReadyH.cons (o := ?oi20019) ?hi20019 (fun K hK => ?br20019) AllReadyH.nil)
     case hi20018 => (conv => lhs; simp only [gT_, gZ_, gS_]); try exact rfl
     case hi20019 => (conv => lhs; simp only [gT_, gZ_, gS_]); try exact rfl
     case br20018 =>
      have x_0 := keep1 bw g2
      go_simp
      refine hK.out _ _ (by exact ⟨keep1 bw g4, keep1 bw z0, keep1 bw z1, keep1 bw z2⟩) (fun _ => ?_)
      clear hK K
      try simp only [Act.put, pT_, pZ_, pS_]
      have bw2 := bw
      exact key_bds_1_8_10  r bw2
     case br20019 =>
      go_simp
      refine hK.out _ _ (by exact ⟨keep1 (belA bw (.cells #[.int .i64 ((B.sq + 1) % 6), .string tx] 55)) g4, keep1 (belA bw (.cells #[.int .i64 ((B.sq + 1) % 6), .string tx] 55)) z0, keep1 (belA bw (.cells #[.int .i64 ((B.sq + 1) % 6), .string tx] 55)) z1, keep1 (belA bw (.cells #[.int .i64 ((B.sq + 1) % 6), .string tx] 55)) z2⟩) (fun _ => ?_)
      clear hK K
      try simp only [Act.put, pT_, pZ_, pS_]
      refine foldH ?_
      intro q hq
      obtain ⟨aLw, ha⟩ : ∃ g, r.heap.size = g := ⟨_, rfl⟩
      rw [ha]
      have bw2 : Below wb.heap.size wb q := by rw [hq]; exact belA bw _
      have oLw2 : q.ownsRow wb.heap.size 55 2 (.slice (some ⟨aLw, 0, none⟩) (1) 1) (1) (RS [((B.sq + 1) % 6, tx)]) := by rw [hq, ← ha]; exact own_lit2 _ _ _ _ _ bw.size
      exact key_bds_8_10_12 aLw q ⟨bw2, oLw2⟩
   case key =>
    rintro  r bw
    try dsimp only
    refine wpAnyH_ready (rs := [12]) (by kernel_rfl) (by simp) ?_
    refine AllReadyH.cons (o := ?oi20020) ?hi20020 (fun K hK => ?br20020) AllReadyH.nil
    case hi20020 => (conv => lhs; simp only [gT_, gZ_, gS_]); try exact rfl
    case br20020 =>
     go_simp
     refine hK.out _ _ (by exact ⟨keep1 (belA bw (.cells #[.int .i64 ((B.sq + 1) % 6), .string tx] 55)) g4, keep1 (belA bw (.cells #[.int .i64 ((B.sq + 1) % 6), .string tx] 55)) z0, keep1 (belA bw (.cells #[.int .i64 ((B.sq + 1) % 6), .string tx] 55)) z1, keep1 (belA bw (.cells #[.int .i64 ((B.sq + 1) % 6), .string tx] 55)) z2⟩) (fun _ => ?_)
     clear hK K
     try simp only [Act.put, pT_, pZ_, pS_]
     refine foldH ?_
     intro q hq
     obtain ⟨aLw, ha⟩ : ∃ g, r.heap.size = g := ⟨_, rfl⟩
     rw [ha]
     have bw2 : Below wb.heap.size wb q := by rw [hq]; exact belA bw _
     have oLw2 : q.ownsRow wb.heap.size 55 2 (.slice (some ⟨aLw, 0, none⟩) (1) 1) (1) (RS [((B.sq + 1) % 6, tx)]) := by rw [hq, ← ha]; exact own_lit2 _ _ _ _ _ bw.size
     exact key_bds_1_8_10_12 aLw q ⟨bw2, oLw2⟩
  case key =>
   rintro aLw r ⟨bw, oLw⟩
   try dsimp only
   refine wpAnyH_ready (rs := [1]) (by kernel_rfl) (by simp) ?_
   refine AllReadyH.cons (o := ?oi20021) ?hi20021 (fun K hK => ?br20021) AllReadyH.nil
   case hi20021 => (conv => lhs; simp only [gT_, gZ_, gS_]); try exact rfl
   case br20021 =>
    have x_0 := keep1 bw g2
    go_simp
    refine hK.out _ _ (by exact ⟨keep1 bw g4, keep1 bw z0, keep1 bw z1, keep1 bw z2⟩) (fun _ => ?_)
    clear hK K
    try simp only [Act.put, pT_, pZ_, pS_]
    have bw2 := bw
    have oLw2 := oLw
    exact key_bds_1_8_10_12 aLw r ⟨bw2, oLw2⟩
 case key =>
  rintro aLw r ⟨bw, oLw⟩
  try dsimp only
  refine wpAnyH_ready (rs := [13]) (by kernel_rfl) (by simp) ?_
  refine AllReadyH.cons (o := ?oi20022) ?hi20022 (fun K hK => ?br20022) AllReadyH.nil
  case hi20022 => (conv => lhs; simp only [gT_, gZ_, gS_]); try exact rfl
  case br20022 =>
   refine step_appY _ (by rfl) _ _ 25 (by rfl) Tryz.el_write (own_below K3.out bw (Nat.le_refl _)) (by rfl) (Reads.of_own oLw) (by rfl) (RS_cells _) (by unfold maxLen; omega) (by omega) (by have := bw.size; omega) ?_
   intro v q ow hg hor hb
   obtain ⟨gv, cv, rfl⟩ := own_form1 ow (by omega)
   have ngv : gv ≠ w.heap.size := by
    rcases hor with h | h
    ·exact NG3.out gv h.symm
    ·have := hGb.out.lt; have := bw.size; simp only [Value.ownBlock, Option.some.injEq] at h; omega
   have hGq := (hGb.out.below bw hGb.out.lt).grown hg (fun e => NG3.out w.heap.size e.symm rfl)
   have hQq := (Q7.out.below bw Q7.out.lt).grown hg (blk_ne_own Q7.out K3.out (by omega))
   have hRq := (R7.out.below bw R7.out.lt).grown hg (blk_ne_own R7.out K3.out (by omega))
   have k1q := own_keepN (own_below K1.out bw (Nat.le_refl _)) hg DD.out.2.1
   have k2q := own_keepN (own_below K2.out bw (Nat.le_refl _)) hg DD.out.2.2
   have d6q := own_keepN (own_below D6.out bw (Nat.le_refl _)) hg (dis_lt lo4 (fun k hk => by have := NL3.out k hk; omega) (own_lo D6.out)).symm
   have bq : Below w.heap.size w q := (belN Bb bw).trans (hb.mono (by omega))
   have zq := Nat.le_trans bw.size hg.size
   have dv1 := dis_new DD.out.2.1 (own_hi K1.out) bw.size hor
   have dv2 := dis_new DD.out.2.2 (own_hi K2.out) bw.size hor
   have dv4 : Dis (.slice A5 L.length c5) (.slice (some ⟨gv, 0, none⟩) (B.pd.length + 1) cv) := dis_new (dis_lt lo4 (fun k hk => by have := NL3.out k hk; omega) (own_lo D6.out)).symm (own_hi D6.out) bw.size hor
   clear hg hor hb bw oLw g4 g2 z0 z1 z2 K1 K2 K3 D6 Q7 R7 hGb
   have g4 := hGq.get (x := .int .i64 (B.sq + 1)) 4 rfl
   have z0 := hQq.get (x := .int .i64 k) 0 rfl
   have z1 := hQq.get (x := .string s) 1 rfl
   have z2 := hQq.get (x := .int .i64 i) 2 rfl
   try simp only [Act.put, pT_, pZ_, pS_]
   refine hK.out _ _ (by exact ⟨g4, z0, z1, z2⟩) (fun _ => ?_)
   clear hK K
   try simp only [Act.put, pT_, pZ_, pS_]
   refine tkV_ 14 (v := ?v20023) ?hy20023 ?hS20023 ?hr20023
   case hS20023 => exact ⟨g4, z0, z1, z2⟩
   case hy20023 => refine Or.inl ⟨by rfl, ?_⟩; intro w hSw; (try dsimp only at hSw); go_simp; (try with_reducible rfl)
   simp only [Act.put, pT_, pZ_, pS_]
   refine wpAnyH_ready (rs := [15]) (by kernel_rfl) (by simp) ?_
   refine AllReadyH.cons (o := ?oi20024) ?hi20024 (fun K hK => ?br20024) AllReadyH.nil
   case hi20024 => (conv => lhs; simp only [gT_, gZ_, gS_]); try exact rfl
   case br20024 =>
    have x_0 := hGq.get (x := .slice A3' B.pd.length c3') 2 rfl
    have f_0 := hGq.frozen 2
    have l_0 := hGq.lt
    have hGz := hGq.put 2 (.slice (some ⟨gv, 0, none⟩) (B.pd.length + 1) cv) #[.slice (some ⟨g1, 0, none⟩) 6 e1, .slice (some ⟨g2, 0, none⟩) 2 e2, .slice (some ⟨gv, 0, none⟩) (B.pd.length + 1) cv, .slice A5 L.length c5, .int .i64 (B.sq + 1), .int .i64 B.bs, .int .i64 B.sf, .int .i64 B.at_, .int .i64 B.df] rfl
    have hQz := hQq.far (p := ⟨w.heap.size, 2, none⟩) (fun e => Gge.2.1 e.symm) (.slice (some ⟨gv, 0, none⟩) (B.pd.length + 1) cv)
    go_simp
    refine hK.out _ _ (by exact ⟨hGz.get 4 rfl, hQz.get 0 rfl, hQz.get 1 rfl, hQz.get 2 rfl⟩) (fun _ => ?_)
    clear hK K
    try simp only [Act.put, pT_, pZ_, pS_]
    refine wpAnyH_done (by kernel_rfl) ?_ _
    have hRz := hRq.far (p := ⟨w.heap.size, 2, none⟩) (fun e => Gge.2.2 e.symm) (.slice (some ⟨gv, 0, none⟩) (B.pd.length + 1) cv)
    have k1z := own_scN k1q 2 NG1.out (.slice (some ⟨gv, 0, none⟩) (B.pd.length + 1) cv)
    have k2z := own_scN k2q 2 NG2.out (.slice (some ⟨gv, 0, none⟩) (B.pd.length + 1) cv)
    have owz := own_scN ow 2 (fun k hk => by simp only [Value.ownBlock, Option.some.injEq] at hk; rw [← hk]; exact ngv) (.slice (some ⟨gv, 0, none⟩) (B.pd.length + 1) cv)
    have d6z := own_sc (g := w.heap.size) d6q 2 (by omega) (.slice (some ⟨gv, 0, none⟩) (B.pd.length + 1) cv)
    have bz := bq.setCell (p := ⟨w.heap.size, 2, none⟩) Gge.1 (.slice (some ⟨gv, 0, none⟩) (B.pd.length + 1) cv)
    have sz : (q.setCell ⟨w.heap.size, 2, none⟩ (.slice (some ⟨gv, 0, none⟩) (B.pd.length + 1) cv)).heap.size = q.heap.size := sz_sc _ _ _
    clear x_0 f_0 l_0 hGq hQq hQz hRq k1q k2q d6q bq g4 z0 z1 z2 ow
    generalize q.setCell ⟨w.heap.size, 2, none⟩ (.slice (some ⟨gv, 0, none⟩) (B.pd.length + 1) cv) = z at *
    obtain ⟨x0, x1, x2, x3, x4, x5, x6, x7, x8⟩ := hGz.g9
    have l1 := hGz.lt
    obtain ⟨q0, q1, q2, q3, q4, q5, q6, q7, q8⟩ := hRz.g9
    obtain ⟨p0, p1, p2, p3, p4, p5, p6, p7, p8⟩ := hRz.f9
    have l2 := hRz.lt
    go_wp2
    obtain ⟨w9, h9, hB9, s9, hb9, ho9⟩ := put9 z (w.heap.size + 2) 28 (.slice (some ⟨g1, 0, none⟩) 6 e1) (.slice (some ⟨g2, 0, none⟩) 2 e2) (.slice (some ⟨gv, 0, none⟩) (B.pd.length + 1) cv) (.slice A5 L.length c5) (.int .i64 (B.sq + 1)) (.int .i64 B.bs) (.int .i64 B.sf) (.int .i64 B.at_) (.int .i64 B.df) (.slice none 0 0) (.slice none 0 0) (.slice none 0 0) (.slice none 0 0) (.int .i64 0) (.int .i64 0) (.int .i64 0) (.int .i64 0) (.int .i64 0) hRz
    rw [h9]
    clear h9 l1 l2 x0 x1 x2 x3 x4 x5 x6 x7 x8 q0 q1 q2 q3 q4 q5 q6 q7 q8 p0 p1 p2 p3 p4 p5 p6 p7 p8
    obtain ⟨r0, r1, r2, r3, r4, r5, r6, r7, r8⟩ := hB9.g9
    refine bodyPost_ret (v := .tuple #[.agg #[.slice (some ⟨g1, 0, none⟩) 6 e1, .slice (some ⟨g2, 0, none⟩) 2 e2, .slice (some ⟨gv, 0, none⟩) (B.pd.length + 1) cv, .slice A5 L.length c5, .int .i64 (B.sq + 1), .int .i64 B.bs, .int .i64 B.sf, .int .i64 B.at_, .int .i64 B.df], .bool true]) (by simp [results, Tryz.results17, go_sem, r0, r1, r2, r3, r4, r5, r6, r7, r8]) rfl ⟨⟨_, true, _, Hf2.out, rfl, do_own H6.out H2.out (own_more (ho9 _ _ _ _ _ _ (by omega) k1z) (by omega)) (own_more (ho9 _ _ _ _ _ _ (by omega) k2z) (by omega)) (own_more (ho9 _ _ _ _ _ _ (by omega) owz) (by omega)) (own_more (ho9 _ _ _ _ _ _ (by omega) d6z) (by omega)) DD.out.1 dv1 (dis_lt lo4 (fun k hk => by have := NL1.out k hk; omega) (own_lo d6z)) dv2 (dis_lt lo4 (fun k hk => by have := NL2.out k hk; omega) (own_lo d6z)) dv4.symm⟩, hb9 _ _ (by omega) bz⟩

end Go.Proofs.YtghgafbfpejinaaGreatDoor
