/- What is drawn: books, right ones mostly. -/
import Derived.Test.YtghgafbfpejinaaGreatDoorRDrB
import Derived.Test.YtghgafbfpejinaaGreatDoorRNewBkS
import Derived.Test.YtghgafbfpejinaaGreatDoorRBkJ3
namespace Go.Proofs.YtghgafbfpejinaaGreatDoor
open Go Go.RowKit

theorem mem4_w {G P : (World) → Prop} {R : Prop} (use : (∀ (x0 : World), P x0 → G x0) → R) (key : ∀ (x0 : World), P x0 → G x0) : R := use key
theorem mem4_bnw {G P : (ByteArray) → (Nat) → (World) → Prop} {R : Prop} (use : (∀ (x0 : ByteArray) (x1 : Nat) (x2 : World), P x0 x1 x2 → G x0 x1 x2) → R) (key : ∀ (x0 : ByteArray) (x1 : Nat) (x2 : World), P x0 x1 x2 → G x0 x1 x2) : R := use key
/-- A book in a box of its own, while it is drawn. -/
def BkBox (w : World) (g : Nat) (A : Option Addr) (n cp : Nat) (bs : List UInt8) (X : Nat) (wr : World) : Prop :=
 ∃ B lo up A1 c1 A2 c2 A3 c3 A4 c4, Blk wr X 28 #[.slice A1 B.rg.length c1, .slice A2 B.hm.length c2, .slice A3 B.pd.length c3, .slice A4 B.dr.length c4, .int .i64 B.sq, .int .i64 B.bs, .int .i64 B.sf, .int .i64 B.at_, .int .i64 B.df] ∧ InAt (OwnBk lo (.agg #[.slice A1 B.rg.length c1, .slice A2 B.hm.length c2, .slice A3 B.pd.length c3, .slice A4 B.dr.length c4, .int .i64 B.sq, .int .i64 B.bs, .int .i64 B.sf, .int .i64 B.at_, .int .i64 B.df]) B) lo up wr ∧ (X < lo ∨ up ≤ X) ∧ w.heap.size < lo ∧ bookOkB B = true ∧ SmB B ∧ Curs wr g A n cp bs ∧ w.grownBy wr (some g)

/-- A book that is small. -/
def SzB (B : BookD) : Prop := szBk B ≤ 1048576 ∧ SmB B
/-- A book all of whose rows are of one's own, from a mark on. -/
def OwnB4 (m : Nat) (v : Value) (B : BookD) (w : World) : Prop := ∃ A1 c1 A2 c2 A3 c3 A4 c4, v = .agg #[.slice A1 B.rg.length c1, .slice A2 B.hm.length c2, .slice A3 B.pd.length c3, .slice A4 B.dr.length c4, .int .i64 B.sq, .int .i64 B.bs, .int .i64 B.sf, .int .i64 B.at_, .int .i64 B.df] ∧
 w.ownsRow m 9 1 (.slice A1 B.rg.length c1) B.rg.length (SS B.rg) ∧ w.ownsRow m 9 1 (.slice A2 B.hm.length c2) B.hm.length (SS B.hm) ∧ w.ownsRow m 55 2 (.slice A3 B.pd.length c3) B.pd.length (RS B.pd) ∧ w.ownsRow m 66 4 (.slice A4 B.dr.length c4) B.dr.length (ES B.dr)
theorem OwnB4.isBk {m : Nat} {v : Value} {B : BookD} {w : World} (h : OwnB4 m v B w) : IsBook w v B := by
 obtain ⟨A1, c1, A2, c2, A3, c3, A4, c4, e, h1, h2, h3, h4⟩ := h
 exact ⟨A1, c1, A2, c2, A3, c3, A4, c4, e, own_rd h1, own_rd h2, own_rd h3, own_rd h4⟩
theorem OwnB4.same {m : Nat} {v : Value} {B : BookD} {w w' : World} (h : OwnB4 m v B w) (he : ∀ i, m ≤ i → i < w.heap.size → w'.heap[i]? = w.heap[i]?) : OwnB4 m v B w' := by
 obtain ⟨A1, c1, A2, c2, A3, c3, A4, c4, e, h1, h2, h3, h4⟩ := h
 exact ⟨A1, c1, A2, c2, A3, c3, A4, c4, e, own_eqN h1 (fun k hk => he k (own_lo h1 k hk) (own_hi h1 k hk)), own_eqN h2 (fun k hk => he k (own_lo h2 k hk) (own_hi h2 k hk)), own_eqN h3 (fun k hk => he k (own_lo h3 k hk) (own_hi h3 k hk)), own_eqN h4 (fun k hk => he k (own_lo h4 k hk) (own_hi h4 k hk))⟩
theorem OwnB4.mono {m m' : Nat} {v : Value} {B : BookD} {w : World} (h : OwnB4 m v B w) (hm : m' ≤ m) : OwnB4 m' v B w := by
 obtain ⟨A1, c1, A2, c2, A3, c3, A4, c4, e, h1, h2, h3, h4⟩ := h
 exact ⟨A1, c1, A2, c2, A3, c3, A4, c4, e, own_more h1 hm, own_more h2 hm, own_more h3 hm, own_more h4 hm⟩
theorem own_b4 {lo : Nat} {v : Value} {B : BookD} {w : World} (h : OwnBk lo v B w) : OwnB4 lo v B w := by
 obtain ⟨v1, v2, v3, v4, ⟨A1, c1, A2, c2, A3, c3, A4, c4, rfl, rfl, rfl, rfl, rfl⟩, h1, h2, h3, h4, _⟩ := h
 exact ⟨A1, c1, A2, c2, A3, c3, A4, c4, rfl, h1, h2, h3, h4⟩
section
variable {w : World} {lo : Nat} {B : BookD} {A1 A2 A3 A4 : Option Addr} {c1 c2 c3 c4 : Nat}
theorem own_rows (h : OwnBk lo (.agg #[.slice A1 B.rg.length c1, .slice A2 B.hm.length c2, .slice A3 B.pd.length c3, .slice A4 B.dr.length c4, .int .i64 B.sq, .int .i64 B.bs, .int .i64 B.sf, .int .i64 B.at_, .int .i64 B.df]) B w) :
  w.ownsRow lo 9 1 (.slice A1 B.rg.length c1) B.rg.length (SS B.rg) ∧ w.ownsRow lo 9 1 (.slice A2 B.hm.length c2) B.hm.length (SS B.hm) ∧ w.ownsRow lo 55 2 (.slice A3 B.pd.length c3) B.pd.length (RS B.pd) ∧ w.ownsRow lo 66 4 (.slice A4 B.dr.length c4) B.dr.length (ES B.dr) ∧
  Dis (.slice A1 B.rg.length c1) (.slice A2 B.hm.length c2) ∧ Dis (.slice A1 B.rg.length c1) (.slice A3 B.pd.length c3) ∧ Dis (.slice A1 B.rg.length c1) (.slice A4 B.dr.length c4) ∧ Dis (.slice A2 B.hm.length c2) (.slice A3 B.pd.length c3) ∧ Dis (.slice A2 B.hm.length c2) (.slice A4 B.dr.length c4) ∧ Dis (.slice A3 B.pd.length c3) (.slice A4 B.dr.length c4) := by
 obtain ⟨v1, v2, v3, v4, ⟨A1', c1', A2', c2', A3', c3', A4', c4', e1, e2, e3, e4, e⟩, o1, o2, o3, o4, d12, d13, d14, d23, d24, d34⟩ := h
 simp only [Value.agg.injEq, Array.mk.injEq, List.cons.injEq] at e
 obtain ⟨rfl, rfl, rfl, rfl, _⟩ := e
 exact ⟨o1, o2, o3, o4, d12, d13, d14, d23, d24, d34⟩
theorem b4_ints {m : Nat} (h : OwnB4 m (.agg #[.slice A1 B.rg.length c1, .slice A2 B.hm.length c2, .slice A3 B.pd.length c3, .slice A4 B.dr.length c4, .int .i64 B.sq, .int .i64 B.bs, .int .i64 B.sf, .int .i64 B.at_, .int .i64 B.df]) B w) (a b c d e : Int) : OwnB4 m (.agg #[.slice A1 B.rg.length c1, .slice A2 B.hm.length c2, .slice A3 B.pd.length c3, .slice A4 B.dr.length c4, .int .i64 a, .int .i64 b, .int .i64 c, .int .i64 d, .int .i64 e]) ⟨B.rg, B.hm, B.pd, B.dr, a, b, c, d, e⟩ w := by
 obtain ⟨A1', c1', A2', c2', A3', c3', A4', c4', e1, h1⟩ := h
 simp only [Value.agg.injEq, Array.mk.injEq, List.cons.injEq, Value.slice.injEq] at e1
 obtain ⟨⟨rfl, _, rfl⟩, ⟨rfl, _, rfl⟩, ⟨rfl, _, rfl⟩, ⟨rfl, _, rfl⟩, _⟩ := e1
 exact ⟨A1, c1, A2, c2, A3, c3, A4, c4, rfl, h1⟩
theorem sz_small {D : BookD} (h1 : D.rg.length ≤ 6) (h2 : D.hm.length ≤ 2) (h3 : D.pd.length ≤ 21) (h4 : D.dr.length ≤ 12) (s1 : SzL 1000 D.rg) (s2 : SzL 1000 D.hm) (s3 : ∀ e ∈ D.pd, e.2.size ≤ 1000) (s4 : SzE 24 D.dr) : szBk D ≤ 1048576 := by
 have h1' := sum_le (fun s : ByteArray => s.size) 1000 D.rg s1
 have h2' := sum_le (fun s : ByteArray => s.size) 1000 D.hm s2
 have h3' := sum_le (fun e : Int × ByteArray => e.2.size) 1000 D.pd s3
 have h4' := sum_le (fun e : EntD => e.s.size) 24 D.dr s4
 have h5 : D.dr.length * 24 ≤ 12 * 24 := Nat.mul_le_mul_right _ h4
 have h6 : D.pd.length * 1000 ≤ 21 * 1000 := Nat.mul_le_mul_right _ h3
 have h7 : D.rg.length * 1000 ≤ 6 * 1000 := Nat.mul_le_mul_right _ h1
 have h8 : D.hm.length * 1000 ≤ 2 * 1000 := Nat.mul_le_mul_right _ h2
 unfold szBk szT szW szS
 omega
end

theorem newB_ok : bookOkB newB = true := JB.new.ok
theorem newB_sm : SmB newB := by
 refine ⟨fun s hs => ?_, fun s hs => ?_, fun e he => absurd he (List.not_mem_nil)⟩
 ·unfold newB at hs
  simp only [List.mem_cons, List.not_mem_nil, or_false, or_self] at hs
  subst hs; exact Nat.zero_le _
 ·unfold newB at hs
  simp only [List.mem_cons, List.not_mem_nil, or_false] at hs
  rcases hs with rfl | rfl
  ·exact homeB_small _ _
  ·exact Nat.zero_le _

theorem inAt_lt {I : World → Prop} {lo up k : Nat} {w : World} (h : InAt I lo up w) (hk : ∀ w', I w' → k < w'.heap.size) : k < up := by
 have hs : (w.heap.extract 0 up).size = up := by rw [Array.size_extract]; have := h.1; omega
 have h1 := hk _ (h.2 { w with heap := w.heap.extract 0 up } (by rw [hs]; exact Nat.le_refl _) (fun i _ hi => by
  show (w.heap.extract 0 up)[i]? = w.heap[i]?
  rw [Array.getElem?_extract, if_pos (by have := h.1; omega), Nat.zero_add]))
 have h2 : k < (w.heap.extract 0 up).size := h1
 omega
theorem own_keep9 {w w' : World} {lo b n size : Nat} {e : TypeId} {v : Value} {xs : List Value} (h : w.ownsRow lo e size v n xs) (ho : ∀ i, i ≠ b → w'.heap[i]? = w.heap[i]?) (hb : b < lo) : w'.ownsRow lo e size v n xs := own_eqN h (fun k hk => ho k (by have := own_lo h k hk; omega))
theorem Dis.own {a b : Value} (h : Dis a b) {k g : Nat} (ha : a.ownBlock = some k) (hb : b.ownBlock = some g) : k ≠ g := by
 rcases h with h | h | h
 ·rw [ha] at h; cases h
 ·rw [hb] at h; cases h
 ·rw [ha, hb] at h; intro e; exact h (by rw [e])
theorem InAt.keepN {I : World → Prop} {lo up : Nat} {w w' : World} (h : InAt I lo up w) (hs : w.heap.size ≤ w'.heap.size) (he : ∀ i, lo ≤ i → w'.heap[i]? = w.heap[i]?) : InAt I lo up w' :=
 ⟨Nat.le_trans h.1 hs, fun w'' a b => h.2 w'' a fun i h4 h5 => (b i h4 h5).trans (he i h4)⟩
theorem InAt.keepL {I : World → Prop} {lo up : Nat} {w w' : World} (h : InAt I lo up w) (hs : w.heap.size ≤ w'.heap.size) (he : ∀ i, lo ≤ i → i < up → w'.heap[i]? = w.heap[i]?) : InAt I lo up w' :=
 ⟨Nat.le_trans h.1 hs, fun w'' a b => h.2 w'' a fun i h4 h5 => (b i h4 h5).trans (he i h4 h5)⟩
theorem BkBox.grown {w : World} {g : Nat} {A : Option Addr} {n cp : Nat} {bs : List UInt8} {X : Nat} {wr w' : World} (h : BkBox w g A n cp bs X wr) (hc : Curs w' g A n cp bs) (hg : wr.grownBy w' (some g)) (hX : w.heap.size < X) (hgl : g < w.heap.size) : BkBox w g A n cp bs X w' := by
 obtain ⟨B, lo, up, A1, c1, A2, c2, A3, c3, A4, c4, h1, h2, h3, h4, h5, h6, _, h8⟩ := h
 exact ⟨B, lo, up, A1, c1, A2, c2, A3, c3, A4, c4, blk_g h1 hg (by omega), inAt_g h2 hg (by omega), h3, h4, h5, h6, hc, h8.trans hg⟩

set_option maxRecDepth 100000 in
set_option maxHeartbeats 8000000 in
theorem l25Some_any (g : Nat) (A : Option Addr) (n cp : Nat) (bs : List UInt8) (hn : n ≤ 9223372036854775806) (most : Int) (hm : most ≤ 1000) (w : World) (h : Curs w g A n cp bs) :
  Calls Tryz.prog 25 #[.pointer (some ⟨g, 0, none⟩), .int .i64 most] w fun e w' => ∃ v B, e = .returned v ∧ OwnB4 w.heap.size v B w' ∧ SzB B ∧ Curs w' g A n cp bs ∧ w.grownBy w' (some g) := by
 have Hb := Lib.hid (fun m hm W hW => l1Below_any g A n cp bs hn m hm W hW)
 have Ho := Lib.hid (fun m hm W hW => l1Once_any g A n cp bs hn m hm W hW)
 have Ht := Lib.hid (fun m hm W hW => l1Text_any g A n cp bs hn m hm W hW)
 have hlt := h.lt
 obtain ⟨W1, hW1⟩ : ∃ W, w.alloc (.cells zB_ 28) = W := ⟨_, rfl⟩
 have R1 : Blk W1 w.heap.size 28 zB_ := by rw [← hW1]; exact Blk.new' _ _ _ _ rfl
 have B1 : Below w.heap.size w W1 := by rw [← hW1]; exact belA (bel0 w) _
 have S1 : W1.heap.size = w.heap.size + 1 := by rw [← hW1]; simp
 have C1 := h.below B1
 have G1 : w.grownBy W1 (some g) := gb_below (grown_refl _ _) B1
 have HW1 := Lib.hid hW1
 clear hW1 h
 go_enter Tryz.func25, Tryz.ntmps25
 go_wp2_with fail
 rw [HW1.out]
 refine (newBook_spec W1).mono ?_
 rintro e w2 ⟨v, lo, up, rfl, hlo, hin, hb2⟩
 obtain ⟨A1, c1, A2, c2, A3, c3, A4, c4, rfl, _⟩ := hin.is.isBk
 have hokN := newB_ok
 have hsmN := newB_sm
 obtain ⟨B, hB⟩ : ∃ B, newB = B := ⟨_, rfl⟩
 rw [hB] at hin hokN hsmN ⊢
 have R2 := R1.below hb2 R1.lt
 have C2 := C1.below hb2
 have G2 := gb_below G1 hb2
 have s2 := hb2.size
 have h2up := hin.1
 have hbA : Below w2.heap.size w2 (w2.alloc (.cells #[.slice A1 B.rg.length c1, .slice A2 B.hm.length c2, .slice A3 B.pd.length c3, .slice A4 B.dr.length c4, .int .i64 B.sq, .int .i64 B.bs, .int .i64 B.sf, .int .i64 B.at_, .int .i64 B.df] 28)) := belA (bel0 _) _
 obtain ⟨W3, hW3⟩ : ∃ W, w2.alloc (.cells #[.slice A1 B.rg.length c1, .slice A2 B.hm.length c2, .slice A3 B.pd.length c3, .slice A4 B.dr.length c4, .int .i64 B.sq, .int .i64 B.bs, .int .i64 B.sf, .int .i64 B.at_, .int .i64 B.df] 28) = W := ⟨_, rfl⟩
 obtain ⟨X, hX⟩ : ∃ X, w2.heap.size = X := ⟨_, rfl⟩
 have HBX : Hid (BkBox w g A n cp bs X W3) := Lib.hid ⟨B, lo, up, A1, c1, A2, c2, A3, c3, A4, c4, by rw [← hW3, ← hX]; exact Blk.new' _ _ _ _ rfl, by rw [← hW3]; exact hin.next hbA, .inr (by omega), by omega, hokN, hsmN, by rw [← hW3]; exact C2.alloc _, by rw [← hW3]; exact gb_below G2 hbA⟩
 have R3 : Blk W3 w.heap.size 28 zB_ := by rw [← hW3]; exact R2.alloc _
 have gX : w.heap.size < X := by omega
 have C3 : Curs W3 g A n cp bs := by rw [← hW3]; exact C2.alloc _
 have HW3 := Lib.hid hW3
 have HX := Lib.hid hX
 clear hW3 hX hin hbA R1 R2 C1 C2 G1 G2 HW1 hokN hsmN hB B1 hb2 h2up
 go_wp2_with fail
 rw [HW3.out, HX.out]
 refine (Hb.out most (by omega) W3 C3).mono ?_
 rintro e w4 ⟨k, rfl, hk0, hk1, C4, hg4⟩
 have R4 := Lib.hid (blk_g R3 hg4 (by omega))
 have HB4 := Lib.hid (HBX.out.grown C4 hg4 gX hlt)
 have hk : 0 ≤ k ∧ k ≤ 1000 := by
  rcases Int.lt_or_le 0 most with h | h
  ·have := hk1 h; omega
  ·have := hk0 h; omega
 obtain ⟨k, rfl⟩ : ∃ j : Nat, k = (j : Int) := ⟨k.toNat, by omega⟩
 clear hk0 hk1 hg4 R3 C3 C4 HBX HW3 HX
 go_wp2
 go_loopw [6] (fun i wr => ∃ k : Nat, i = .int .i64 k ∧ k ≤ 1000 ∧ Hid (BkBox w g A n cp bs X wr) ∧ Hid (Blk wr w.heap.size 28 zB_)) (fun i _ => (intOf i).toNat)
 case atStart => exact ⟨k, rfl, by omega, HB4.out, R4.out⟩
 case round =>
  obtain ⟨k, rfl, hk, HB, HR⟩ := hrel
  obtain ⟨B, lo, up, A1, c1, A2, c2, A3, c3, A4, c4, kX, hin, hsep, hgl, hok, hsm, hcu, hgr⟩ := HB.out
  have Hok := Lib.hid hok
  have Hsm := Lib.hid hsm
  have HSz := Lib.hid (smB_sz hok hsm)
  have lX := kX.lt
  have lR := HR.out.lt
  clear hok hsm HB
  by_cases h0 : k = 0
  rotate_left
  ·skip
   have hk0 : (k : Int) > 0 := by omega
   have hk0b : (0 : Int) < (k : Int) := by omega
   have w4' : IntKind.i64.wrap ((k : Int) - 1) = ((k - 1 : Nat) : Int) := by rw [IntKind.wrap_i64]; omega
   obtain ⟨x0, x1, x2, x3, x4, x5, x6, x7, x8⟩ := kX.g9
   go_wp2_with fail
   clear x0 x1 x2 x3 x4 x5 x6 x7 x8
   refine (l25Act_any g A n cp bs hn lo up _ wr (by omega) ⟨Nat.le_refl _, B, hin, Hok.out, Hsm.out⟩ hcu).mono ?_
   rintro e w5 ⟨v', lo', up', rfl, ⟨hlo', B', hin', hok', hsm'⟩, hcu5, hgr5⟩
   obtain ⟨F1, f1, F2, f2, F3, f3, F4, f4, rfl, _⟩ := hin'.is.isBk
   have kX5 := blk_g kX hgr5 (by omega)
   have HR5 := Lib.hid (blk_g HR.out hgr5 (by omega))
   have G5 := hgr.trans hgr5
   have s5 := hgr5.size
   obtain ⟨q0, q1, q2, q3, q4, q5, q6, q7, q8⟩ := kX5.g9
   obtain ⟨p0, p1, p2, p3, p4, p5, p6, p7, p8⟩ := kX5.f9
   have l2 := kX5.lt
   go_wp2
   obtain ⟨w9, h9, hB9, s9, hb9, ho9⟩ := put9n w5 X 28 (.slice F1 B'.rg.length f1) (.slice F2 B'.hm.length f2) (.slice F3 B'.pd.length f3) (.slice F4 B'.dr.length f4) (.int .i64 B'.sq) (.int .i64 B'.bs) (.int .i64 B'.sf) (.int .i64 B'.at_) (.int .i64 B'.df) (.slice A1 B.rg.length c1) (.slice A2 B.hm.length c2) (.slice A3 B.pd.length c3) (.slice A4 B.dr.length c4) (.int .i64 B.sq) (.int .i64 B.bs) (.int .i64 B.sf) (.int .i64 B.at_) (.int .i64 B.df) kX5
   first | rw [h9] | simp only [h9]
   clear h9 l2 q0 q1 q2 q3 q4 q5 q6 q7 q8 p0 p1 p2 p3 p4 p5 p6 p7 p8
   have HBn : Hid (BkBox w g A n cp bs X w9) := Lib.hid ⟨B', lo', up', F1, f1, F2, f2, F3, f3, F4, f4, hB9, ⟨by have := hin'.1; omega, fun w'' a b => hin'.2 w'' (by omega) fun i h4 h5 => (b i h4 h5).trans (ho9 i (by omega))⟩, .inl (by omega), by omega, hok', hsm', hcu5.bel (hb9 (g + 1) _ (by omega) (Below.refl _ _)) (by omega), gb_bel0 G5 (hb9 w.heap.size _ (by omega) (Below.refl _ _))⟩
   have HRn := Lib.hid (HR5.out.eqN (ho9 _ (by omega)))
   clear kX hin hsep hcu hgr HR kX5 HR5 hin' hcu5 hgr5 G5 hB9 hb9 ho9 hok' hsm'
   first
    | exact ⟨⟨k - 1, by go_num, by omega, HBn.out, HRn.out⟩, by simp [intOf]; omega⟩
    | (go_roundw; case rel => exact ⟨k - 1, by go_num, by omega, HBn.out, HRn.out⟩; case measure => (simp [intOf]; omega))
  subst h0
  have hkX := Lib.hid kX
  go_wp2_with fail
  refine (Ho.out 10 (by omega) wr hcu).mono ?_
  rintro e w5 ⟨b, rfl, hcu5, hgr5⟩
  have kX5 := blk_g kX hgr5 (by omega)
  have R5 := blk_g HR.out hgr5 (by omega)
  have G5 := hgr.trans hgr5
  have s5 := hgr5.size
  have I5 := inAt_g hin hgr5 (by omega)
  clear kX HR hgr hgr5 hin hcu hkX
  rcases b with _ | _
  ·skip
   obtain ⟨x0, x1, x2, x3, x4, x5, x6, x7, x8⟩ := kX5.g9
   have l1 := kX5.lt
   obtain ⟨q0, q1, q2, q3, q4, q5, q6, q7, q8⟩ := R5.g9
   obtain ⟨p0, p1, p2, p3, p4, p5, p6, p7, p8⟩ := R5.f9
   have l2 := R5.lt
   go_wp2
   obtain ⟨w19, h19, hB19, s19, hb19, ho19⟩ := put9n w5 w.heap.size 28 (.slice A1 B.rg.length c1) (.slice A2 B.hm.length c2) (.slice A3 B.pd.length c3) (.slice A4 B.dr.length c4) (.int .i64 B.sq) (.int .i64 B.bs) (.int .i64 B.sf) (.int .i64 B.at_) (.int .i64 B.df) (.slice none 0 0) (.slice none 0 0) (.slice none 0 0) (.slice none 0 0) (.int .i64 0) (.int .i64 0) (.int .i64 0) (.int .i64 0) (.int .i64 0) R5
   rw [h19]
   clear h19 l1 l2 x0 x1 x2 x3 x4 x5 x6 x7 x8 q0 q1 q2 q3 q4 q5 q6 q7 q8 p0 p1 p2 p3 p4 p5 p6 p7 p8
   obtain ⟨r0, r1, r2, r3, r4, r5, r6, r7, r8⟩ := hB19.g9
   refine bodyPost_ret (v := .agg #[.slice A1 B.rg.length c1, .slice A2 B.hm.length c2, .slice A3 B.pd.length c3, .slice A4 B.dr.length c4, .int .i64 B.sq, .int .i64 B.bs, .int .i64 B.sf, .int .i64 B.at_, .int .i64 B.df]) (by simp [results, Tryz.results25, go_sem, r0, r1, r2, r3, r4, r5, r6, r7, r8]) rfl ⟨_, _, rfl, (own_b4 (I5.keepN (by omega) (fun i hi => ho19 i (by omega))).is).mono (by omega), ⟨HSz.out, Hsm.out⟩, (hcu5).bel (hb19 (g + 1) _ (by omega) (Below.refl _ _)) (by omega), gb_bel0 G5 (hb19 w.heap.size _ (Nat.le_refl _) (Below.refl _ _))⟩
  go_wp2_with fail
  refine (Hb.out 6 (by omega) w5 hcu5).mono ?_
  rintro e w6 ⟨x, rfl, _, hx, hcu6, hgr6⟩
  obtain ⟨hx0, hx1⟩ := hx (by omega)
  have kX6 := blk_g kX5 hgr6 (by omega)
  have R6 := blk_g R5 hgr6 (by omega)
  have G6 := G5.trans hgr6
  have s6 := hgr6.size
  have I6 := inAt_g I5 hgr6 (by omega)
  clear kX5 R5 G5 I5 hcu5 hgr6 hx
  have d0 : x ≠ 0 → (x == 0) = false := fun h => beq_eq_false_iff_ne.2 h
  have d1 : x ≠ 1 → (x == 1) = false := fun h => beq_eq_false_iff_ne.2 h
  have d2 : x ≠ 2 → (x == 2) = false := fun h => beq_eq_false_iff_ne.2 h
  have d3 : x ≠ 3 → (x == 3) = false := fun h => beq_eq_false_iff_ne.2 h
  have d4 : x ≠ 4 → (x == 4) = false := fun h => beq_eq_false_iff_ne.2 h
  by_cases e0 : x = 0
  ·subst e0
   obtain ⟨x0, x1, x2, x3, x4, x5, x6, x7, x8⟩ := kX6.g9
   have l1 := kX6.lt
   go_wp2_with fail
   clear l1 x0 x1 x2 x3 x4 x5 x6 x7 x8
   have wz : ∀ z : Int, 0 ≤ z ∧ z ≤ 8 → IntKind.i64.wrap (B.sq + z) = B.sq + z := fun z hz => by have h1 := (bk_is Hok.out).m; have h2 := (bk_is Hok.out).f; have h3 := inI_t.1 (bk_is Hok.out).b; rw [IntKind.wrap_i64]; omega
   refine wp_region_held_drew (S := fun w' => True) (by kernel_rfl) (by exact trivial) (fun hHeld => ?_)
   clear hHeld
   refine foldH ?_
   intro r hr0
   have bw : w6.grownBy r (some g) := by rw [hr0]; exact gb_below (grown_refl _ _) (bel0 w6).drew
   have kX : Blk r X 28 #[.slice A1 B.rg.length c1, .slice A2 B.hm.length c2, .slice A3 B.pd.length c3, .slice A4 B.dr.length c4, .int .i64 B.sq, .int .i64 B.bs, .int .i64 B.sf, .int .i64 B.at_, .int .i64 B.df] := by rw [hr0]; exact kX6.drew
   have kR : Blk r w.heap.size 28 zB_ := by rw [hr0]; exact R6.drew
   have pC : Curs r g A n cp bs := by rw [hr0]; exact hcu6.drew'
   have pI : InAt (OwnBk lo (.agg #[.slice A1 B.rg.length c1, .slice A2 B.hm.length c2, .slice A3 B.pd.length c3, .slice A4 B.dr.length c4, .int .i64 B.sq, .int .i64 B.bs, .int .i64 B.sf, .int .i64 B.at_, .int .i64 B.df]) B) lo up r := by rw [hr0]; exact I6.next (bel0 w6).drew
   clear hr0
   apply mem4_iw (P := fun z q => w6.grownBy q (some g) ∧ Blk q w.heap.size 28 zB_ ∧ Blk q X 28 #[.slice A1 B.rg.length c1, .slice A2 B.hm.length c2, .slice A3 B.pd.length c3, .slice A4 B.dr.length c4, .int .i64 B.sq, .int .i64 B.bs, .int .i64 B.sf, .int .i64 B.at_, .int .i64 B.df] ∧ Curs q g A n cp bs ∧ InAt (OwnBk lo (.agg #[.slice A1 B.rg.length c1, .slice A2 B.hm.length c2, .slice A3 B.pd.length c3, .slice A4 B.dr.length c4, .int .i64 B.sq, .int .i64 B.bs, .int .i64 B.sf, .int .i64 B.at_, .int .i64 B.df]) B) lo up q ∧ 0 ≤ z ∧ z ≤ 8)
   case use =>
    intro key_s0_1_3
    apply mem4_iw (P := fun z q => w6.grownBy q (some g) ∧ Blk q w.heap.size 28 zB_ ∧ Blk q X 28 #[.slice A1 B.rg.length c1, .slice A2 B.hm.length c2, .slice A3 B.pd.length c3, .slice A4 B.dr.length c4, .int .i64 B.sq, .int .i64 B.bs, .int .i64 B.sf, .int .i64 B.at_, .int .i64 B.df] ∧ Curs q g A n cp bs ∧ InAt (OwnBk lo (.agg #[.slice A1 B.rg.length c1, .slice A2 B.hm.length c2, .slice A3 B.pd.length c3, .slice A4 B.dr.length c4, .int .i64 B.sq, .int .i64 B.bs, .int .i64 B.sf, .int .i64 B.at_, .int .i64 B.df]) B) lo up q ∧ 0 ≤ z ∧ z ≤ 8)
    case use =>
     intro key_s0_3
     apply mem4_w (P := fun  q => w6.grownBy q (some g) ∧ Blk q w.heap.size 28 zB_ ∧ Blk q X 28 #[.slice A1 B.rg.length c1, .slice A2 B.hm.length c2, .slice A3 B.pd.length c3, .slice A4 B.dr.length c4, .int .i64 B.sq, .int .i64 B.bs, .int .i64 B.sf, .int .i64 B.at_, .int .i64 B.df] ∧ Curs q g A n cp bs ∧ InAt (OwnBk lo (.agg #[.slice A1 B.rg.length c1, .slice A2 B.hm.length c2, .slice A3 B.pd.length c3, .slice A4 B.dr.length c4, .int .i64 B.sq, .int .i64 B.bs, .int .i64 B.sf, .int .i64 B.at_, .int .i64 B.df]) B) lo up q)
     case use =>
      intro key_s0_1
      refine tkV_ 0 (v := ?v5001) ?hy5001 trivial ?hr5001
      case hy5001 => refine Or.inl ⟨by rfl, ?_⟩; intro w hSw; (try dsimp only at hSw); go_simp; (try with_reducible rfl)
      simp only [Act.put, pT_, pZ_, pS_]
      refine tkV_ 2 (v := ?v5002) ?hy5002 trivial ?hr5002
      case hy5002 => refine Or.inl ⟨by rfl, ?_⟩; intro w hSw; (try dsimp only at hSw); go_simp; (try with_reducible rfl)
      simp only [Act.put, pT_, pZ_, pS_]
      refine wpAnyH_ready (rs := [1, 3]) (by kernel_rfl) (by simp) ?_
      refine AllReadyH.cons (o := ?oi5003) ?hi5003 (fun K hK => ?br5003) (AllReadyH.cons (o := ?oi5004) ?hi5004 (fun K hK => ?br5004) AllReadyH.nil)
      case hi5003 => (conv => lhs; simp only [gT_, gZ_, gS_]); try exact rfl
      case hi5004 => (conv => lhs; simp only [gT_, gZ_, gS_]); try exact rfl
      case br5003 =>
       have x_0 := kX.get (x := .int .i64 B.sq) 4 rfl
       go_simp
       refine hK.out _ _ (by exact trivial) (fun _ => ?_)
       clear hK K
       try simp only [Act.put, pT_, pZ_, pS_]
       exact key_s0_1  r ⟨bw, kR, kX, pC, pI⟩
      case br5004 =>
       go_simp
       go_at_call 50
       refine (l1Below_any g A n cp bs hn 9 (by omega) _ pC).mono ?_
       rintro e q ⟨z, rfl, _, hz, hcG, hg⟩
       have bw2 := bw.trans hg
       have kX2 := blk_g kX hg (by omega)
       have kR2 := blk_g kR hg (by omega)
       have pC2 : Curs q g A n cp bs := hcG
       have pI2 : InAt (OwnBk lo (.agg #[.slice A1 B.rg.length c1, .slice A2 B.hm.length c2, .slice A3 B.pd.length c3, .slice A4 B.dr.length c4, .int .i64 B.sq, .int .i64 B.bs, .int .i64 B.sf, .int .i64 B.at_, .int .i64 B.df]) B) lo up q := inAt_g pI hg (by omega)
       have hz2 : 0 ≤ z ∧ z ≤ 8 := by have := hz (by omega); omega
       refine hK.out _ _ (by exact trivial) (fun _ => ?_)
       clear hK K
       try simp only [Act.put, pT_, pZ_, pS_]
       exact key_s0_3 z q ⟨bw2, kR2, kX2, pC2, pI2, hz2⟩
     case key =>
      rintro  r ⟨bw, kR, kX, pC, pI⟩
      try dsimp only
      refine wpAnyH_ready (rs := [3]) (by kernel_rfl) (by simp) ?_
      refine AllReadyH.cons (o := ?oi5005) ?hi5005 (fun K hK => ?br5005) AllReadyH.nil
      case hi5005 => (conv => lhs; simp only [gT_, gZ_, gS_]); try exact rfl
      case br5005 =>
       go_simp
       go_at_call 50
       refine (l1Below_any g A n cp bs hn 9 (by omega) _ pC).mono ?_
       rintro e q ⟨z, rfl, _, hz, hcG, hg⟩
       have bw2 := bw.trans hg
       have kX2 := blk_g kX hg (by omega)
       have kR2 := blk_g kR hg (by omega)
       have pC2 : Curs q g A n cp bs := hcG
       have pI2 : InAt (OwnBk lo (.agg #[.slice A1 B.rg.length c1, .slice A2 B.hm.length c2, .slice A3 B.pd.length c3, .slice A4 B.dr.length c4, .int .i64 B.sq, .int .i64 B.bs, .int .i64 B.sf, .int .i64 B.at_, .int .i64 B.df]) B) lo up q := inAt_g pI hg (by omega)
       have hz2 : 0 ≤ z ∧ z ≤ 8 := by have := hz (by omega); omega
       refine hK.out _ _ (by exact trivial) (fun _ => ?_)
       clear hK K
       try simp only [Act.put, pT_, pZ_, pS_]
       refine tkV_ 4 (v := ?v5006) ?hy5006 trivial ?hr5006
       case hy5006 => refine Or.inl ⟨by rfl, ?_⟩; intro w hSw; (try dsimp only at hSw); go_simp; (try with_reducible rfl)
       simp only [Act.put, pT_, pZ_, pS_]
       refine tkV_ 5 (v := ?v5007) ?hy5007 trivial ?hr5007
       case hy5007 => refine Or.inl ⟨by rfl, ?_⟩; intro w hSw; (try dsimp only at hSw); go_simp; (try with_reducible rfl)
       simp only [Act.put, pT_, pZ_, pS_]
       exact key_s0_1_3 z q ⟨bw2, kR2, kX2, pC2, pI2, hz2⟩
    case key =>
     rintro z r ⟨bw, kR, kX, pC, pI, hz2⟩
     try dsimp only
     refine wpAnyH_ready (rs := [1]) (by kernel_rfl) (by simp) ?_
     refine AllReadyH.cons (o := ?oi5008) ?hi5008 (fun K hK => ?br5008) AllReadyH.nil
     case hi5008 => (conv => lhs; simp only [gT_, gZ_, gS_]); try exact rfl
     case br5008 =>
      have x_0 := kX.get (x := .int .i64 B.sq) 4 rfl
      go_simp
      refine hK.out _ _ (by exact trivial) (fun _ => ?_)
      clear hK K
      try simp only [Act.put, pT_, pZ_, pS_]
      refine tkV_ 4 (v := ?v5009) ?hy5009 trivial ?hr5009
      case hy5009 => refine Or.inl ⟨by rfl, ?_⟩; intro w hSw; (try dsimp only at hSw); go_simp; (try with_reducible rfl)
      simp only [Act.put, pT_, pZ_, pS_]
      refine tkV_ 5 (v := ?v5010) ?hy5010 trivial ?hr5010
      case hy5010 => refine Or.inl ⟨by rfl, ?_⟩; intro w hSw; (try dsimp only at hSw); go_simp; (try with_reducible rfl)
      simp only [Act.put, pT_, pZ_, pS_]
      exact key_s0_1_3 z r ⟨bw, kR, kX, pC, pI, hz2⟩
   case key =>
    rintro z r ⟨bw, kR, kX, pC, pI, hz2⟩
    try dsimp only
    refine wpAnyH_ready (rs := [6]) (by kernel_rfl) (by simp) ?_
    refine AllReadyH.cons (o := ?oi5011) ?hi5011 (fun K hK => ?br5011) AllReadyH.nil
    case hi5011 => (conv => lhs; simp only [gT_, gZ_, gS_]); try exact rfl
    case br5011 =>
     have x_0 := kX.get (x := .int .i64 B.sq) 4 rfl
     have f_0 := kX.frozen 4
     have l_0 := kX.lt
     go_simp
     refine hK.out _ _ (by exact trivial) (fun _ => ?_)
     clear hK K
     try simp only [Act.put, pT_, pZ_, pS_]
     refine wpAnyH_done (by kernel_rfl) ?_ _
     clear x_0 f_0 l_0
     obtain ⟨Z, hZ⟩ : ∃ Z, r.setCell ⟨X, 4, none⟩ (.int .i64 (B.sq + z)) = Z := ⟨_, rfl⟩
     rw [hZ]
     have kZ : Blk Z X 28 #[.slice A1 B.rg.length c1, .slice A2 B.hm.length c2, .slice A3 B.pd.length c3, .slice A4 B.dr.length c4, .int .i64 (B.sq + z), .int .i64 B.bs, .int .i64 B.sf, .int .i64 B.at_, .int .i64 B.df] := by rw [← hZ]; exact kX.put 4 (.int .i64 (B.sq + z)) #[.slice A1 B.rg.length c1, .slice A2 B.hm.length c2, .slice A3 B.pd.length c3, .slice A4 B.dr.length c4, .int .i64 (B.sq + z), .int .i64 B.bs, .int .i64 B.sf, .int .i64 B.at_, .int .i64 B.df] rfl
     have RZ : Blk Z w.heap.size 28 zB_ := by rw [← hZ]; exact kR.far (p := ⟨X, 4, none⟩) (by show w.heap.size ≠ X; omega) _
     have cZ : Curs Z g A n cp bs := by rw [← hZ]; exact pC.bel ((Below.refl (g + 1) r).setCell (p := ⟨X, 4, none⟩) (by show g + 1 ≤ X; omega) _) (by omega)
     have gZ : w.grownBy Z (some g) := by rw [← hZ]; exact gb_bel0 (G6.trans bw) ((Below.refl w.heap.size r).setCell (p := ⟨X, 4, none⟩) (by show w.heap.size ≤ X; omega) _)
     have iZ : Hid (InAt (OwnBk lo (.agg #[.slice A1 B.rg.length c1, .slice A2 B.hm.length c2, .slice A3 B.pd.length c3, .slice A4 B.dr.length c4, .int .i64 B.sq, .int .i64 B.bs, .int .i64 B.sf, .int .i64 B.at_, .int .i64 B.df]) B) lo up Z) := Lib.hid (pI.keepL (by rw [← hZ]; exact Nat.le_of_eq (sz_sc _ _ _).symm) (fun i h1 h2 => by rw [← hZ]; exact Below.heap_setCell _ ⟨X, 4, none⟩ _ i (by show i ≠ X; omega)))
     clear hZ kX kR
     obtain ⟨x0, x1, x2, x3, x4, x5, x6, x7, x8⟩ := kZ.g9
     have l1 := kZ.lt
     obtain ⟨q0, q1, q2, q3, q4, q5, q6, q7, q8⟩ := RZ.g9
     obtain ⟨p0, p1, p2, p3, p4, p5, p6, p7, p8⟩ := RZ.f9
     have l2 := RZ.lt
     go_wp2
     obtain ⟨w19, h19, hB19, s19, hb19, ho19⟩ := put9n Z w.heap.size 28 (.slice A1 B.rg.length c1) (.slice A2 B.hm.length c2) (.slice A3 B.pd.length c3) (.slice A4 B.dr.length c4) (.int .i64 (B.sq + z)) (.int .i64 B.bs) (.int .i64 B.sf) (.int .i64 B.at_) (.int .i64 B.df) (.slice none 0 0) (.slice none 0 0) (.slice none 0 0) (.slice none 0 0) (.int .i64 0) (.int .i64 0) (.int .i64 0) (.int .i64 0) (.int .i64 0) RZ
     rw [h19]
     clear h19 l1 l2 x0 x1 x2 x3 x4 x5 x6 x7 x8 q0 q1 q2 q3 q4 q5 q6 q7 q8 p0 p1 p2 p3 p4 p5 p6 p7 p8
     obtain ⟨r0, r1, r2, r3, r4, r5, r6, r7, r8⟩ := hB19.g9
     refine bodyPost_ret (v := .agg #[.slice A1 B.rg.length c1, .slice A2 B.hm.length c2, .slice A3 B.pd.length c3, .slice A4 B.dr.length c4, .int .i64 (B.sq + z), .int .i64 B.bs, .int .i64 B.sf, .int .i64 B.at_, .int .i64 B.df]) (by simp [results, Tryz.results25, go_sem, r0, r1, r2, r3, r4, r5, r6, r7, r8]) rfl ⟨_, _, rfl, b4_ints ((own_b4 (iZ.out.keepN (by omega) (fun i hi => ho19 i (by omega))).is).mono (by omega)) _ _ _ _ _, ⟨HSz.out, Hsm.out⟩, (cZ).bel (hb19 (g + 1) _ (by omega) (Below.refl _ _)) (by omega), gb_bel0 gZ (hb19 w.heap.size _ (Nat.le_refl _) (Below.refl _ _))⟩
  have f0 := d0 e0
  by_cases e1 : x = 1
  ·subst e1
   have hh2 := (bk_is Hok.out).h
   obtain ⟨_, o2w, _⟩ := own_rows I6.is
   obtain ⟨g2, c2', he2⟩ := own_form1 o2w (by omega)
   simp only [Value.slice.injEq, true_and] at he2
   obtain ⟨rfl, rfl⟩ := he2
   have Hh2 := Lib.hid hh2
   clear o2w hh2
   obtain ⟨x0, x1, x2, x3, x4, x5, x6, x7, x8⟩ := kX6.g9
   have l1 := kX6.lt
   go_wp2_with fail
   clear l1 x0 x1 x2 x3 x4 x5 x6 x7 x8
   refine wp_region_held_drew (S := fun w' => w'.cell? ⟨X, 1, none⟩ = some (.slice (some ⟨g2, 0, none⟩) B.hm.length c2)) (by kernel_rfl) (by exact kX6.get 1 rfl) (fun hHeld => ?_)
   clear hHeld
   refine foldH ?_
   intro r hr0
   have bw : w6.grownBy r (some g) := by rw [hr0]; exact gb_below (grown_refl _ _) (bel0 w6).drew
   have kX : Blk r X 28 #[.slice A1 B.rg.length c1, .slice (some ⟨g2, 0, none⟩) B.hm.length c2, .slice A3 B.pd.length c3, .slice A4 B.dr.length c4, .int .i64 B.sq, .int .i64 B.bs, .int .i64 B.sf, .int .i64 B.at_, .int .i64 B.df] := by rw [hr0]; exact kX6.drew
   have kR : Blk r w.heap.size 28 zB_ := by rw [hr0]; exact R6.drew
   have pC : Curs r g A n cp bs := by rw [hr0]; exact hcu6.drew'
   have pI : InAt (OwnBk lo (.agg #[.slice A1 B.rg.length c1, .slice (some ⟨g2, 0, none⟩) B.hm.length c2, .slice A3 B.pd.length c3, .slice A4 B.dr.length c4, .int .i64 B.sq, .int .i64 B.bs, .int .i64 B.sf, .int .i64 B.at_, .int .i64 B.df]) B) lo up r := by rw [hr0]; exact I6.next (bel0 w6).drew
   clear hr0
   apply mem4_bnw (P := fun tz zn q => w6.grownBy q (some g) ∧ Blk q w.heap.size 28 zB_ ∧ Blk q X 28 #[.slice A1 B.rg.length c1, .slice (some ⟨g2, 0, none⟩) B.hm.length c2, .slice A3 B.pd.length c3, .slice A4 B.dr.length c4, .int .i64 B.sq, .int .i64 B.bs, .int .i64 B.sf, .int .i64 B.at_, .int .i64 B.df] ∧ Curs q g A n cp bs ∧ InAt (OwnBk lo (.agg #[.slice A1 B.rg.length c1, .slice (some ⟨g2, 0, none⟩) B.hm.length c2, .slice A3 B.pd.length c3, .slice A4 B.dr.length c4, .int .i64 B.sq, .int .i64 B.bs, .int .i64 B.sf, .int .i64 B.at_, .int .i64 B.df]) B) lo up q ∧ tz.size ≤ 6 ∧ (0 : Int) ≤ (zn : Int) ∧ (zn : Int) < (B.hm.length : Int) ∧ zn < B.hm.length)
   case use =>
    intro key_s1_3_5
    apply mem4_nw (P := fun zn q => w6.grownBy q (some g) ∧ Blk q w.heap.size 28 zB_ ∧ Blk q X 28 #[.slice A1 B.rg.length c1, .slice (some ⟨g2, 0, none⟩) B.hm.length c2, .slice A3 B.pd.length c3, .slice A4 B.dr.length c4, .int .i64 B.sq, .int .i64 B.bs, .int .i64 B.sf, .int .i64 B.at_, .int .i64 B.df] ∧ Curs q g A n cp bs ∧ InAt (OwnBk lo (.agg #[.slice A1 B.rg.length c1, .slice (some ⟨g2, 0, none⟩) B.hm.length c2, .slice A3 B.pd.length c3, .slice A4 B.dr.length c4, .int .i64 B.sq, .int .i64 B.bs, .int .i64 B.sf, .int .i64 B.at_, .int .i64 B.df]) B) lo up q ∧ (0 : Int) ≤ (zn : Int) ∧ (zn : Int) < (B.hm.length : Int) ∧ zn < B.hm.length)
    case use =>
     intro key_s1_3
     refine tkV_ 0 (v := ?v6001) ?hy6001 ?hS6001 ?hr6001
     case hS6001 => exact kX.get 1 rfl
     case hy6001 => refine Or.inl ⟨by rfl, ?_⟩; intro w hSw; (try dsimp only at hSw); go_simp; (try with_reducible rfl)
     simp only [Act.put, pT_, pZ_, pS_]
     refine tkV_ 1 (v := ?v6002) ?hy6002 ?hS6002 ?hr6002
     case hS6002 => exact kX.get 1 rfl
     case hy6002 => refine Or.inl ⟨by rfl, ?_⟩; intro w hSw; (try dsimp only at hSw); go_simp; (try with_reducible rfl)
     simp only [Act.put, pT_, pZ_, pS_]
     refine tkV_ 2 (v := ?v6003) ?hy6003 ?hS6003 ?hr6003
     case hS6003 => exact kX.get 1 rfl
     case hy6003 => refine Or.inl ⟨by rfl, ?_⟩; intro w hSw; (try dsimp only at hSw); go_simp; (try with_reducible rfl)
     simp only [Act.put, pT_, pZ_, pS_]
     refine tkV_ 4 (v := ?v6004) ?hy6004 ?hS6004 ?hr6004
     case hS6004 => exact kX.get 1 rfl
     case hy6004 => refine Or.inl ⟨by rfl, ?_⟩; intro w hSw; (try dsimp only at hSw); go_simp; (try with_reducible rfl)
     simp only [Act.put, pT_, pZ_, pS_]
     refine wpAnyH_ready (rs := [3]) (by kernel_rfl) (by simp) ?_
     refine AllReadyH.cons (o := ?oi6005) ?hi6005 (fun K hK => ?br6005) AllReadyH.nil
     case hi6005 => (conv => lhs; simp only [gT_, gZ_, gS_]); try exact rfl
     case br6005 =>
      go_simp
      go_at_call 50
      refine (l1Below_any g A n cp bs hn 2 (by omega) _ pC).mono ?_
      rintro e q ⟨z, rfl, _, hz, hcG, hg⟩
      have bw2 := bw.trans hg
      have kX2 := blk_g kX hg (by omega)
      have kR2 := blk_g kR hg (by omega)
      have pC2 : Curs q g A n cp bs := hcG
      have pI2 : InAt (OwnBk lo (.agg #[.slice A1 B.rg.length c1, .slice (some ⟨g2, 0, none⟩) B.hm.length c2, .slice A3 B.pd.length c3, .slice A4 B.dr.length c4, .int .i64 B.sq, .int .i64 B.bs, .int .i64 B.sf, .int .i64 B.at_, .int .i64 B.df]) B) lo up q := inAt_g pI hg (by omega)
      obtain ⟨zh0, zh1⟩ := hz (by omega)
      obtain ⟨zn, hzn⟩ : ∃ j : Nat, z = (j : Int) := ⟨z.toNat, (Int.toNat_of_nonneg zh0).symm⟩
      subst hzn
      have zc0 : (0 : Int) ≤ (zn : Int) := zh0
      have zc1 : (zn : Int) < (B.hm.length : Int) := by have := Hh2.out; omega
      have zc2 : zn < B.hm.length := by have := Hh2.out; omega
      refine hK.out _ _ (by exact kX2.get 1 rfl) (fun _ => ?_)
      clear hK K
      try simp only [Act.put, pT_, pZ_, pS_]
      exact key_s1_3 zn q ⟨bw2, kR2, kX2, pC2, pI2, zc0, zc1, zc2⟩
    case key =>
     rintro zn r ⟨bw, kR, kX, pC, pI, zc0, zc1, zc2⟩
     try dsimp only
     refine wpAnyH_ready (rs := [5]) (by kernel_rfl) (by simp) ?_
     refine AllReadyH.cons (o := ?oi6006) ?hi6006 (fun K hK => ?br6006) AllReadyH.nil
     case hi6006 => (conv => lhs; simp only [gT_, gZ_, gS_]); try exact rfl
     case br6006 =>
      go_simp
      go_at_call 65
      refine (l1Text_any g A n cp bs hn 6 (by omega) _ pC).mono ?_
      rintro e q ⟨tz, rfl, htz, hcG, hg⟩
      have bw2 := bw.trans hg
      have kX2 := blk_g kX hg (by omega)
      have kR2 := blk_g kR hg (by omega)
      have pC2 : Curs q g A n cp bs := hcG
      have pI2 : InAt (OwnBk lo (.agg #[.slice A1 B.rg.length c1, .slice (some ⟨g2, 0, none⟩) B.hm.length c2, .slice A3 B.pd.length c3, .slice A4 B.dr.length c4, .int .i64 B.sq, .int .i64 B.bs, .int .i64 B.sf, .int .i64 B.at_, .int .i64 B.df]) B) lo up q := inAt_g pI hg (by omega)
      have htz2 : tz.size ≤ 6 := htz
      refine hK.out _ _ (by exact kX2.get 1 rfl) (fun _ => ?_)
      clear hK K
      try simp only [Act.put, pT_, pZ_, pS_]
      refine tkV_ 6 (v := ?v6007) ?hy6007 ?hS6007 ?hr6007
      case hS6007 => exact kX2.get 1 rfl
      case hy6007 => refine Or.inl ⟨by rfl, ?_⟩; intro w hSw; (try dsimp only at hSw); go_simp; (try with_reducible rfl)
      simp only [Act.put, pT_, pZ_, pS_]
      exact key_s1_3_5 tz zn q ⟨bw2, kR2, kX2, pC2, pI2, htz2, zc0, zc1, zc2⟩
   case key =>
    rintro tz zn r ⟨bw, kR, kX, pC, pI, htz2, zc0, zc1, zc2⟩
    try dsimp only
    refine wpAnyH_ready (rs := [7]) (by kernel_rfl) (by simp) ?_
    refine AllReadyH.cons (o := ?oi6008) ?hi6008 (fun K hK => ?br6008) AllReadyH.nil
    case hi6008 => (conv => lhs; simp only [gT_, gZ_, gS_]); try exact rfl
    case br6008 =>
     obtain ⟨o1, o2, o3, o4, d12, d13, d14, d23, d24, d34⟩ := own_rows pI.is
     obtain ⟨ux, x_0⟩ := own_cell1 o2 zn zc2
     have f_0 := own_frozen o2 zn
     have l_0 := (o2.lt g2 rfl).2
     have g2lo := (o2.lt g2 rfl).1
     have g2up := inAt_lt (k := g2) pI (fun w' h => ((own_rows h).2.1.lt g2 rfl).2)
     have nX2 : X ≠ g2 := by rcases hsep with h | h <;> omega
     go_simp
     refine hK.out _ _ (by exact (kX.far (p := ⟨g2, zn, none⟩) nX2 _).get 1 rfl) (fun _ => ?_)
     clear hK K
     try simp only [Act.put, pT_, pZ_, pS_]
     refine wpAnyH_done (by kernel_rfl) ?_ _
     clear x_0 f_0 l_0
     obtain ⟨Z, hZ⟩ : ∃ Z, r.setCell ⟨g2, zn, none⟩ (.string tz) = Z := ⟨_, rfl⟩
     rw [hZ]
     have kZ : Blk Z X 28 #[.slice A1 B.rg.length c1, .slice (some ⟨g2, 0, none⟩) B.hm.length c2, .slice A3 B.pd.length c3, .slice A4 B.dr.length c4, .int .i64 B.sq, .int .i64 B.bs, .int .i64 B.sf, .int .i64 B.at_, .int .i64 B.df] := by rw [← hZ]; exact kX.far (p := ⟨g2, zn, none⟩) nX2 _
     have RZ : Blk Z w.heap.size 28 zB_ := by rw [← hZ]; exact kR.far (p := ⟨g2, zn, none⟩) (by show w.heap.size ≠ g2; omega) _
     have cZ : Curs Z g A n cp bs := by rw [← hZ]; exact pC.bel ((Below.refl (g + 1) r).setCell (p := ⟨g2, zn, none⟩) (by show g + 1 ≤ g2; omega) _) (by omega)
     have gZ : w.grownBy Z (some g) := by rw [← hZ]; exact gb_bel0 (G6.trans bw) ((Below.refl w.heap.size r).setCell (p := ⟨g2, zn, none⟩) (by show w.heap.size ≤ g2; omega) _)
     have p1 := Lib.hid (show Z.ownsRow lo 9 1 _ _ _ by rw [← hZ]; exact own_scN o1 zn (fun k hk => d12.own hk rfl) _)
     have p2 := Lib.hid (show Z.ownsRow lo 9 1 (.slice (some ⟨g2, 0, none⟩) B.hm.length c2) B.hm.length (SS (B.hm.set zn tz)) by rw [← hZ, SS_set]; exact own_set o2 zn _)
     have p3 := Lib.hid (show Z.ownsRow lo 55 2 _ _ _ by rw [← hZ]; exact own_scN o3 zn (fun k hk => d23.symm.own hk rfl) _)
     have p4 := Lib.hid (show Z.ownsRow lo 66 4 _ _ _ by rw [← hZ]; exact own_scN o4 zn (fun k hk => d24.symm.own hk rfl) _)
     have zs : Z.heap.size = r.heap.size := by rw [← hZ]; exact sz_sc _ _ _
     have sr := bw.size
     clear hZ kX kR o1 o2 o3 o4 pI pC bw d12 d13 d14 d23 d24 d34
     obtain ⟨x0, x1, x2, x3, x4, x5, x6, x7, x8⟩ := kZ.g9
     have l1 := kZ.lt
     obtain ⟨q0, q1, q2, q3, q4, q5, q6, q7, q8⟩ := RZ.g9
     obtain ⟨p0, p1, p2, p3, p4, p5, p6, p7, p8⟩ := RZ.f9
     have l2 := RZ.lt
     go_wp2
     obtain ⟨w19, h19, hB19, s19, hb19, ho19⟩ := put9n Z w.heap.size 28 (.slice A1 B.rg.length c1) (.slice (some ⟨g2, 0, none⟩) B.hm.length c2) (.slice A3 B.pd.length c3) (.slice A4 B.dr.length c4) (.int .i64 B.sq) (.int .i64 B.bs) (.int .i64 B.sf) (.int .i64 B.at_) (.int .i64 B.df) (.slice none 0 0) (.slice none 0 0) (.slice none 0 0) (.slice none 0 0) (.int .i64 0) (.int .i64 0) (.int .i64 0) (.int .i64 0) (.int .i64 0) RZ
     rw [h19]
     clear h19 l1 l2 x0 x1 x2 x3 x4 x5 x6 x7 x8 q0 q1 q2 q3 q4 q5 q6 q7 q8 p0 p1 p2 p3 p4 p5 p6 p7 p8
     obtain ⟨r0, r1, r2, r3, r4, r5, r6, r7, r8⟩ := hB19.g9
     refine bodyPost_ret (v := .agg #[.slice A1 B.rg.length c1, .slice (some ⟨g2, 0, none⟩) B.hm.length c2, .slice A3 B.pd.length c3, .slice A4 B.dr.length c4, .int .i64 B.sq, .int .i64 B.bs, .int .i64 B.sf, .int .i64 B.at_, .int .i64 B.df]) (by simp [results, Tryz.results25, go_sem, r0, r1, r2, r3, r4, r5, r6, r7, r8]) rfl ⟨_, _, rfl, (show OwnB4 w.heap.size (.agg #[.slice A1 B.rg.length c1, .slice (some ⟨g2, 0, none⟩) B.hm.length c2, .slice A3 B.pd.length c3, .slice A4 B.dr.length c4, .int .i64 B.sq, .int .i64 B.bs, .int .i64 B.sf, .int .i64 B.at_, .int .i64 B.df]) ⟨B.rg, B.hm.set zn tz, B.pd, B.dr, B.sq, B.bs, B.sf, B.at_, B.df⟩ w19 from ⟨A1, c1, some ⟨g2, 0, none⟩, c2, A3, c3, A4, c4, by simp only [List.length_set], own_more (base' := w.heap.size) (own_keep9 p1.out ho19 (by omega)) (by omega), by simpa only [List.length_set] using own_more (base' := w.heap.size) (own_keep9 p2.out ho19 (by omega)) (by omega), own_more (base' := w.heap.size) (own_keep9 p3.out ho19 (by omega)) (by omega), own_more (base' := w.heap.size) (own_keep9 p4.out ho19 (by omega)) (by omega)⟩), ⟨sz_small (D := ⟨B.rg, B.hm.set zn tz, B.pd, B.dr, B.sq, B.bs, B.sf, B.at_, B.df⟩) (by have := (bk_is Hok.out).r; show B.rg.length ≤ 6; omega) (by show (B.hm.set zn tz).length ≤ 2; rw [List.length_set, Hh2.out]; exact Nat.le_refl _) (by have := (bk_is Hok.out).q; show B.pd.length ≤ 21; omega) (dirOk_sz (bk_is Hok.out).d).2 Hsm.out.1 (Hsm.out.2.1.set (by omega)) Hsm.out.2.2 (dirOk_sz (bk_is Hok.out).d).1, Hsm.out.1, Hsm.out.2.1.set (by omega), Hsm.out.2.2⟩, (cZ).bel (hb19 (g + 1) _ (by omega) (Below.refl _ _)) (by omega), gb_bel0 gZ (hb19 w.heap.size _ (Nat.le_refl _) (Below.refl _ _))⟩
  have f1 := d1 e1
  by_cases e2 : x = 2
  ·subst e2
   obtain ⟨_, _, o3w, _⟩ := own_rows I6.is
   have hq20 := (bk_is Hok.out).q
   clear o3w
   obtain ⟨x0, x1, x2, x3, x4, x5, x6, x7, x8⟩ := kX6.g9
   have l1 := kX6.lt
   go_wp2_with fail
   clear l1 x0 x1 x2 x3 x4 x5 x6 x7 x8
   have wz : ∀ z : Int, 0 ≤ z ∧ z ≤ 9 → IntKind.i64.wrap (z - 1) = z - 1 := fun z hz => by rw [IntKind.wrap_i64]; omega
   have nX1 : ∀ k, (.slice A1 B.rg.length c1 : Value).ownBlock = some k → k ≠ X := fun k hk => by have h0 := own_rows I6.is; have h3 := inAt_lt (k := k) I6 (fun w' h => ((own_rows h).1.lt k hk).2); have h4 := own_lo h0.1 k hk; rcases hsep with h | h <;> omega
   have nX2 : ∀ k, (.slice A2 B.hm.length c2 : Value).ownBlock = some k → k ≠ X := fun k hk => by have h0 := own_rows I6.is; have h3 := inAt_lt (k := k) I6 (fun w' h => ((own_rows h).2.1.lt k hk).2); have h4 := own_lo h0.2.1 k hk; rcases hsep with h | h <;> omega
   have nX4 : ∀ k, (.slice A4 B.dr.length c4 : Value).ownBlock = some k → k ≠ X := fun k hk => by have h0 := own_rows I6.is; have h3 := inAt_lt (k := k) I6 (fun w' h => ((own_rows h).2.2.2.1.lt k hk).2); have h4 := own_lo h0.2.2.2.1 k hk; rcases hsep with h | h <;> omega
   refine wp_region_held_drew (S := fun w' => True) (by kernel_rfl) (by exact trivial) (fun hHeld => ?_)
   clear hHeld
   refine foldH ?_
   intro r hr0
   have bw : w6.grownBy r (some g) := by rw [hr0]; exact gb_below (grown_refl _ _) (bel0 w6).drew
   have kX : Blk r X 28 #[.slice A1 B.rg.length c1, .slice A2 B.hm.length c2, .slice A3 B.pd.length c3, .slice A4 B.dr.length c4, .int .i64 B.sq, .int .i64 B.bs, .int .i64 B.sf, .int .i64 B.at_, .int .i64 B.df] := by rw [hr0]; exact kX6.drew
   have kR : Blk r w.heap.size 28 zB_ := by rw [hr0]; exact R6.drew
   have pC : Curs r g A n cp bs := by rw [hr0]; exact hcu6.drew'
   have pI : InAt (OwnBk lo (.agg #[.slice A1 B.rg.length c1, .slice A2 B.hm.length c2, .slice A3 B.pd.length c3, .slice A4 B.dr.length c4, .int .i64 B.sq, .int .i64 B.bs, .int .i64 B.sf, .int .i64 B.at_, .int .i64 B.df]) B) lo up r := by rw [hr0]; exact I6.next (bel0 w6).drew
   clear hr0
   apply mem4_niw (P := fun aY z q => w6.grownBy q (some g) ∧ Blk q w.heap.size 28 zB_ ∧ Blk q X 28 #[.slice A1 B.rg.length c1, .slice A2 B.hm.length c2, .slice A3 B.pd.length c3, .slice A4 B.dr.length c4, .int .i64 B.sq, .int .i64 B.bs, .int .i64 B.sf, .int .i64 B.at_, .int .i64 B.df] ∧ Blk q aY 55 #[.int .i64 (z - 1), .string ⟨#[]⟩] ∧ Curs q g A n cp bs ∧ InAt (OwnBk lo (.agg #[.slice A1 B.rg.length c1, .slice A2 B.hm.length c2, .slice A3 B.pd.length c3, .slice A4 B.dr.length c4, .int .i64 B.sq, .int .i64 B.bs, .int .i64 B.sf, .int .i64 B.at_, .int .i64 B.df]) B) lo up q ∧ IntKind.i64.wrap (z - 1) = z - 1 ∧ w6.heap.size ≤ aY)
   case use =>
    intro key_s2_1_3_6
    apply mem4_niw (P := fun aY z q => w6.grownBy q (some g) ∧ Blk q w.heap.size 28 zB_ ∧ Blk q X 28 #[.slice A1 B.rg.length c1, .slice A2 B.hm.length c2, .slice A3 B.pd.length c3, .slice A4 B.dr.length c4, .int .i64 B.sq, .int .i64 B.bs, .int .i64 B.sf, .int .i64 B.at_, .int .i64 B.df] ∧ Blk q aY 55 #[.int .i64 (z - 1), .string ⟨#[]⟩] ∧ Curs q g A n cp bs ∧ InAt (OwnBk lo (.agg #[.slice A1 B.rg.length c1, .slice A2 B.hm.length c2, .slice A3 B.pd.length c3, .slice A4 B.dr.length c4, .int .i64 B.sq, .int .i64 B.bs, .int .i64 B.sf, .int .i64 B.at_, .int .i64 B.df]) B) lo up q ∧ IntKind.i64.wrap (z - 1) = z - 1 ∧ w6.heap.size ≤ aY)
    case use =>
     intro key_s2_3_6
     apply mem4_iw (P := fun z q => w6.grownBy q (some g) ∧ Blk q w.heap.size 28 zB_ ∧ Blk q X 28 #[.slice A1 B.rg.length c1, .slice A2 B.hm.length c2, .slice A3 B.pd.length c3, .slice A4 B.dr.length c4, .int .i64 B.sq, .int .i64 B.bs, .int .i64 B.sf, .int .i64 B.at_, .int .i64 B.df] ∧ Curs q g A n cp bs ∧ InAt (OwnBk lo (.agg #[.slice A1 B.rg.length c1, .slice A2 B.hm.length c2, .slice A3 B.pd.length c3, .slice A4 B.dr.length c4, .int .i64 B.sq, .int .i64 B.bs, .int .i64 B.sf, .int .i64 B.at_, .int .i64 B.df]) B) lo up q ∧ IntKind.i64.wrap (z - 1) = z - 1)
     case use =>
      intro key_s2_1_3
      apply mem4_iw (P := fun z q => w6.grownBy q (some g) ∧ Blk q w.heap.size 28 zB_ ∧ Blk q X 28 #[.slice A1 B.rg.length c1, .slice A2 B.hm.length c2, .slice A3 B.pd.length c3, .slice A4 B.dr.length c4, .int .i64 B.sq, .int .i64 B.bs, .int .i64 B.sf, .int .i64 B.at_, .int .i64 B.df] ∧ Curs q g A n cp bs ∧ InAt (OwnBk lo (.agg #[.slice A1 B.rg.length c1, .slice A2 B.hm.length c2, .slice A3 B.pd.length c3, .slice A4 B.dr.length c4, .int .i64 B.sq, .int .i64 B.bs, .int .i64 B.sf, .int .i64 B.at_, .int .i64 B.df]) B) lo up q ∧ IntKind.i64.wrap (z - 1) = z - 1)
      case use =>
       intro key_s2_3
       apply mem4_w (P := fun  q => w6.grownBy q (some g) ∧ Blk q w.heap.size 28 zB_ ∧ Blk q X 28 #[.slice A1 B.rg.length c1, .slice A2 B.hm.length c2, .slice A3 B.pd.length c3, .slice A4 B.dr.length c4, .int .i64 B.sq, .int .i64 B.bs, .int .i64 B.sf, .int .i64 B.at_, .int .i64 B.df] ∧ Curs q g A n cp bs ∧ InAt (OwnBk lo (.agg #[.slice A1 B.rg.length c1, .slice A2 B.hm.length c2, .slice A3 B.pd.length c3, .slice A4 B.dr.length c4, .int .i64 B.sq, .int .i64 B.bs, .int .i64 B.sf, .int .i64 B.at_, .int .i64 B.df]) B) lo up q)
       case use =>
        intro key_s2_1
        refine tkV_ 0 (v := ?v7001) ?hy7001 trivial ?hr7001
        case hy7001 => refine Or.inl ⟨by rfl, ?_⟩; intro w hSw; (try dsimp only at hSw); go_simp; (try with_reducible rfl)
        simp only [Act.put, pT_, pZ_, pS_]
        refine tkV_ 2 (v := ?v7002) ?hy7002 trivial ?hr7002
        case hy7002 => refine Or.inl ⟨by rfl, ?_⟩; intro w hSw; (try dsimp only at hSw); go_simp; (try with_reducible rfl)
        simp only [Act.put, pT_, pZ_, pS_]
        refine wpAnyH_ready (rs := [1, 3]) (by kernel_rfl) (by simp) ?_
        refine AllReadyH.cons (o := ?oi7003) ?hi7003 (fun K hK => ?br7003) (AllReadyH.cons (o := ?oi7004) ?hi7004 (fun K hK => ?br7004) AllReadyH.nil)
        case hi7003 => (conv => lhs; simp only [gT_, gZ_, gS_]); try exact rfl
        case hi7004 => (conv => lhs; simp only [gT_, gZ_, gS_]); try exact rfl
        case br7003 =>
         have x_0 := kX.get (x := .slice A3 B.pd.length c3) 2 rfl
         go_simp
         refine hK.out _ _ (by exact trivial) (fun _ => ?_)
         clear hK K
         try simp only [Act.put, pT_, pZ_, pS_]
         exact key_s2_1  r ⟨bw, kR, kX, pC, pI⟩
        case br7004 =>
         go_simp
         go_at_call 50
         refine (l1Below_any g A n cp bs hn 10 (by omega) _ pC).mono ?_
         rintro e q ⟨z, rfl, _, hz, hcG, hg⟩
         have bw2 := bw.trans hg
         have kX2 := blk_g kX hg (by omega)
         have kR2 := blk_g kR hg (by omega)
         have pC2 : Curs q g A n cp bs := hcG
         have pI2 : InAt (OwnBk lo (.agg #[.slice A1 B.rg.length c1, .slice A2 B.hm.length c2, .slice A3 B.pd.length c3, .slice A4 B.dr.length c4, .int .i64 B.sq, .int .i64 B.bs, .int .i64 B.sf, .int .i64 B.at_, .int .i64 B.df]) B) lo up q := inAt_g pI hg (by omega)
         have hz2 : IntKind.i64.wrap (z - 1) = z - 1 := wz z (by have := hz (by omega); omega)
         refine hK.out _ _ (by exact trivial) (fun _ => ?_)
         clear hK K
         try simp only [Act.put, pT_, pZ_, pS_]
         refine tkV_ 4 (v := ?v7005) ?hy7005 trivial ?hr7005
         case hy7005 => refine Or.inl ⟨by rfl, ?_⟩; intro w hSw; (try dsimp only at hSw); go_simp; (try with_reducible rfl)
         simp only [Act.put, pT_, pZ_, pS_]
         refine tkV_ 5 (v := ?v7006) ?hy7006 trivial ?hr7006
         case hy7006 => refine Or.inl ⟨by rfl, ?_⟩; intro w hSw; (try dsimp only at hSw); go_simp; (try with_reducible rfl)
         simp only [Act.put, pT_, pZ_, pS_]
         exact key_s2_3 z q ⟨bw2, kR2, kX2, pC2, pI2, hz2⟩
       case key =>
        rintro  r ⟨bw, kR, kX, pC, pI⟩
        try dsimp only
        refine wpAnyH_ready (rs := [3]) (by kernel_rfl) (by simp) ?_
        refine AllReadyH.cons (o := ?oi7007) ?hi7007 (fun K hK => ?br7007) AllReadyH.nil
        case hi7007 => (conv => lhs; simp only [gT_, gZ_, gS_]); try exact rfl
        case br7007 =>
         go_simp
         go_at_call 50
         refine (l1Below_any g A n cp bs hn 10 (by omega) _ pC).mono ?_
         rintro e q ⟨z, rfl, _, hz, hcG, hg⟩
         have bw2 := bw.trans hg
         have kX2 := blk_g kX hg (by omega)
         have kR2 := blk_g kR hg (by omega)
         have pC2 : Curs q g A n cp bs := hcG
         have pI2 : InAt (OwnBk lo (.agg #[.slice A1 B.rg.length c1, .slice A2 B.hm.length c2, .slice A3 B.pd.length c3, .slice A4 B.dr.length c4, .int .i64 B.sq, .int .i64 B.bs, .int .i64 B.sf, .int .i64 B.at_, .int .i64 B.df]) B) lo up q := inAt_g pI hg (by omega)
         have hz2 : IntKind.i64.wrap (z - 1) = z - 1 := wz z (by have := hz (by omega); omega)
         refine hK.out _ _ (by exact trivial) (fun _ => ?_)
         clear hK K
         try simp only [Act.put, pT_, pZ_, pS_]
         refine tkV_ 4 (v := ?v7008) ?hy7008 trivial ?hr7008
         case hy7008 => refine Or.inl ⟨by rfl, ?_⟩; intro w hSw; (try dsimp only at hSw); go_simp; (try with_reducible rfl)
         simp only [Act.put, pT_, pZ_, pS_]
         refine tkV_ 5 (v := ?v7009) ?hy7009 trivial ?hr7009
         case hy7009 => refine Or.inl ⟨by rfl, ?_⟩; intro w hSw; (try dsimp only at hSw); go_simp; (try with_reducible rfl)
         simp only [Act.put, pT_, pZ_, pS_]
         exact key_s2_1_3 z q ⟨bw2, kR2, kX2, pC2, pI2, hz2⟩
      case key =>
       rintro z r ⟨bw, kR, kX, pC, pI, hz2⟩
       try dsimp only
       refine wpAnyH_ready (rs := [1, 6]) (by kernel_rfl) (by simp) ?_
       refine AllReadyH.cons (o := ?oi7010) ?hi7010 (fun K hK => ?br7010) (AllReadyH.cons (o := ?oi7011) ?hi7011 (fun K hK => ?br7011) AllReadyH.nil)
       case hi7010 => (conv => lhs; simp only [gT_, gZ_, gS_]); try exact rfl
       case hi7011 => (conv => lhs; simp only [gT_, gZ_, gS_]); try exact rfl
       case br7010 =>
        have x_0 := kX.get (x := .slice A3 B.pd.length c3) 2 rfl
        go_simp
        refine hK.out _ _ (by exact trivial) (fun _ => ?_)
        clear hK K
        try simp only [Act.put, pT_, pZ_, pS_]
        exact key_s2_1_3 z r ⟨bw, kR, kX, pC, pI, hz2⟩
       case br7011 =>
        go_simp
        refine hK.out _ _ (by exact trivial) (fun _ => ?_)
        clear hK K
        try simp only [Act.put, pT_, pZ_, pS_]
        refine foldH ?_
        intro q hq
        obtain ⟨aY, ha⟩ : ∃ g, r.heap.size = g := ⟨_, rfl⟩
        rw [ha]
        have bw2 : w6.grownBy q (some g) := by rw [hq]; exact gb_below bw (belA (bel0 r) (.cells #[.int .i64 (z - 1), .string ⟨#[]⟩] 55))
        have kX2 : Blk q _ _ _ := hq ▸ kX.alloc (.cells #[.int .i64 (z - 1), .string ⟨#[]⟩] 55)
        have kR2 : Blk q _ _ _ := hq ▸ kR.alloc (.cells #[.int .i64 (z - 1), .string ⟨#[]⟩] 55)
        have pC2 : Curs q g A n cp bs := by rw [hq]; exact pC.alloc _
        have pI2 : InAt (OwnBk lo (.agg #[.slice A1 B.rg.length c1, .slice A2 B.hm.length c2, .slice A3 B.pd.length c3, .slice A4 B.dr.length c4, .int .i64 B.sq, .int .i64 B.bs, .int .i64 B.sf, .int .i64 B.at_, .int .i64 B.df]) B) lo up q := by rw [hq]; exact pI.next (belA (bel0 _) _)
        have kY2 : Blk q aY 55 #[.int .i64 (z - 1), .string ⟨#[]⟩] := by rw [hq, ← ha]; exact Blk.new' _ _ _ _ rfl
        have laY : w6.heap.size ≤ aY := by rw [← ha]; exact bw.size
        exact key_s2_3_6 aY z q ⟨bw2, kR2, kX2, kY2, pC2, pI2, hz2, laY⟩
     case key =>
      rintro z r ⟨bw, kR, kX, pC, pI, hz2⟩
      try dsimp only
      refine wpAnyH_ready (rs := [6]) (by kernel_rfl) (by simp) ?_
      refine AllReadyH.cons (o := ?oi7012) ?hi7012 (fun K hK => ?br7012) AllReadyH.nil
      case hi7012 => (conv => lhs; simp only [gT_, gZ_, gS_]); try exact rfl
      case br7012 =>
       go_simp
       refine hK.out _ _ (by exact trivial) (fun _ => ?_)
       clear hK K
       try simp only [Act.put, pT_, pZ_, pS_]
       refine foldH ?_
       intro q hq
       obtain ⟨aY, ha⟩ : ∃ g, r.heap.size = g := ⟨_, rfl⟩
       rw [ha]
       have bw2 : w6.grownBy q (some g) := by rw [hq]; exact gb_below bw (belA (bel0 r) (.cells #[.int .i64 (z - 1), .string ⟨#[]⟩] 55))
       have kX2 : Blk q _ _ _ := hq ▸ kX.alloc (.cells #[.int .i64 (z - 1), .string ⟨#[]⟩] 55)
       have kR2 : Blk q _ _ _ := hq ▸ kR.alloc (.cells #[.int .i64 (z - 1), .string ⟨#[]⟩] 55)
       have pC2 : Curs q g A n cp bs := by rw [hq]; exact pC.alloc _
       have pI2 : InAt (OwnBk lo (.agg #[.slice A1 B.rg.length c1, .slice A2 B.hm.length c2, .slice A3 B.pd.length c3, .slice A4 B.dr.length c4, .int .i64 B.sq, .int .i64 B.bs, .int .i64 B.sf, .int .i64 B.at_, .int .i64 B.df]) B) lo up q := by rw [hq]; exact pI.next (belA (bel0 _) _)
       have kY2 : Blk q aY 55 #[.int .i64 (z - 1), .string ⟨#[]⟩] := by rw [hq, ← ha]; exact Blk.new' _ _ _ _ rfl
       have laY : w6.heap.size ≤ aY := by rw [← ha]; exact bw.size
       exact key_s2_1_3_6 aY z q ⟨bw2, kR2, kX2, kY2, pC2, pI2, hz2, laY⟩
    case key =>
     rintro aY z r ⟨bw, kR, kX, kY, pC, pI, hz2, laY⟩
     try dsimp only
     refine wpAnyH_ready (rs := [1]) (by kernel_rfl) (by simp) ?_
     refine AllReadyH.cons (o := ?oi7013) ?hi7013 (fun K hK => ?br7013) AllReadyH.nil
     case hi7013 => (conv => lhs; simp only [gT_, gZ_, gS_]); try exact rfl
     case br7013 =>
      have x_0 := kX.get (x := .slice A3 B.pd.length c3) 2 rfl
      go_simp
      refine hK.out _ _ (by exact trivial) (fun _ => ?_)
      clear hK K
      try simp only [Act.put, pT_, pZ_, pS_]
      exact key_s2_1_3_6 aY z r ⟨bw, kR, kX, kY, pC, pI, hz2, laY⟩
   case key =>
    rintro aY z r ⟨bw, kR, kX, kY, pC, pI, hz2, laY⟩
    try dsimp only
    refine wpAnyH_ready (rs := [7]) (by kernel_rfl) (by simp) ?_
    refine AllReadyH.cons (o := ?oi7014) ?hi7014 (fun K hK => ?br7014) AllReadyH.nil
    case hi7014 => (conv => lhs; simp only [gT_, gZ_, gS_]); try exact rfl
    case br7014 =>
     obtain ⟨o1, o2, o3, o4, d12, d13, d14, d23, d24, d34⟩ := own_rows pI.is
     have sr := bw.size
     have iup := pI.1
     have rlo : lo ≤ r.heap.size := by obtain ⟨gz, cz, ez⟩ := own_form1 o1 (by have := (bk_is Hok.out).r; omega); have := o1.lt gz (by rw [ez]; rfl); omega
     refine step_appY _ (by rfl) _ _ 25 (by rfl) Tryz.el_write o3 (by rfl) (reads_blk kY 2 1 rfl) (by rfl) (RS_cells [(z - 1, ⟨#[]⟩)]) (by unfold maxLen; omega) (by omega) (by omega) ?_
     intro v q ow hg hor hb
     obtain ⟨gv, cv, rfl⟩ := own_form1 ow (by omega)
     have nXo : ∀ k, (.slice A3 B.pd.length c3 : Value).ownBlock = some k → k ≠ X ∧ lo ≤ k ∧ k < r.heap.size := fun k hk => ⟨by have h3 := inAt_lt (k := k) pI (fun w' h => ((own_rows h).2.2.1.lt k hk).2); have h4 := (o3.lt k hk).1; rcases hsep with h | h <;> omega, (o3.lt k hk).1, (o3.lt k hk).2⟩
     have ngv : gv ≠ X ∧ lo ≤ gv := by
      rcases hor with h | h
      ·have := nXo gv h.symm; omega
      ·have := kX.lt; simp only [Value.ownBlock, Option.some.injEq] at h; omega
     have kXq := kX.grown hg (fun e => (nXo X e.symm).1 rfl)
     have kRq := kR.grown hg (fun e => by have := (nXo _ e.symm).2.1; omega)
     have pCq := pC.bel (hb.mono (by omega)) (show g < g + 1 by omega)
     have o1q := own_keepN o1 hg d13
     have o2q := own_keepN o2 hg d23
     have o4q := own_keepN o4 hg d34.symm
     have gq := gb_bel0 (G6.trans bw) (hb.mono (show w.heap.size ≤ lo by omega))
     have zq := hg.size
     clear pI pC o1 o2 o3 o4 d12 d13 d14 d23 d24 d34 hg hor hb kX kR kY bw
     try simp only [Act.put, pT_, pZ_, pS_]
     refine hK.out _ _ (by exact trivial) (fun _ => ?_)
     clear hK K
     try simp only [Act.put, pT_, pZ_, pS_]
     refine tkV_ 8 (v := ?v7015) ?hy7015 trivial ?hr7015
     case hy7015 => refine Or.inl ⟨by rfl, ?_⟩; intro w hSw; (try dsimp only at hSw); go_simp; (try with_reducible rfl)
     simp only [Act.put, pT_, pZ_, pS_]
     refine wpAnyH_ready (rs := [9]) (by kernel_rfl) (by simp) ?_
     refine AllReadyH.cons (o := ?oi7016) ?hi7016 (fun K hK => ?br7016) AllReadyH.nil
     case hi7016 => (conv => lhs; simp only [gT_, gZ_, gS_]); try exact rfl
     case br7016 =>
      have x_0 := kXq.get (x := .slice A3 B.pd.length c3) 2 rfl
      have f_0 := kXq.frozen 2
      have l_0 := kXq.lt
      go_simp
      refine hK.out _ _ (by exact trivial) (fun _ => ?_)
      clear hK K
      try simp only [Act.put, pT_, pZ_, pS_]
      refine wpAnyH_done (by kernel_rfl) ?_ _
      clear x_0 f_0 l_0
      obtain ⟨Z, hZ⟩ : ∃ Z, q.setCell ⟨X, 2, none⟩ (.slice (some ⟨gv, 0, none⟩) (B.pd.length + 1) cv) = Z := ⟨_, rfl⟩
      rw [hZ]
      have kZ : Blk Z X 28 #[.slice A1 B.rg.length c1, .slice A2 B.hm.length c2, .slice (some ⟨gv, 0, none⟩) (B.pd.length + 1) cv, .slice A4 B.dr.length c4, .int .i64 B.sq, .int .i64 B.bs, .int .i64 B.sf, .int .i64 B.at_, .int .i64 B.df] := by rw [← hZ]; exact kXq.put 2 (.slice (some ⟨gv, 0, none⟩) (B.pd.length + 1) cv) #[.slice A1 B.rg.length c1, .slice A2 B.hm.length c2, .slice (some ⟨gv, 0, none⟩) (B.pd.length + 1) cv, .slice A4 B.dr.length c4, .int .i64 B.sq, .int .i64 B.bs, .int .i64 B.sf, .int .i64 B.at_, .int .i64 B.df] rfl
      have RZ : Blk Z w.heap.size 28 zB_ := by rw [← hZ]; exact kRq.far (p := ⟨X, 2, none⟩) (by show w.heap.size ≠ X; omega) _
      have cZ : Curs Z g A n cp bs := by rw [← hZ]; exact pCq.bel ((Below.refl (g + 1) q).setCell (p := ⟨X, 2, none⟩) (by show g + 1 ≤ X; omega) _) (by omega)
      have gZ : w.grownBy Z (some g) := by rw [← hZ]; exact gb_bel0 gq ((Below.refl w.heap.size q).setCell (p := ⟨X, 2, none⟩) (by show w.heap.size ≤ X; omega) _)
      have p1 := Lib.hid (show Z.ownsRow lo 9 1 _ _ _ by rw [← hZ]; exact own_scN o1q 2 nX1 _)
      have p2 := Lib.hid (show Z.ownsRow lo 9 1 _ _ _ by rw [← hZ]; exact own_scN o2q 2 nX2 _)
      have p3 := Lib.hid (show Z.ownsRow lo 55 2 (.slice (some ⟨gv, 0, none⟩) (B.pd.length + 1) cv) (B.pd.length + 1) (RS (B.pd ++ [(z - 1, ⟨#[]⟩)])) by rw [← hZ, RS_append]; exact own_scN ow 2 (fun k hk => by simp only [Value.ownBlock, Option.some.injEq] at hk; rw [← hk]; exact ngv.1) _)
      have p4 := Lib.hid (show Z.ownsRow lo 66 4 _ _ _ by rw [← hZ]; exact own_scN o4q 2 nX4 _)
      have zs : Z.heap.size = q.heap.size := by rw [← hZ]; exact sz_sc _ _ _
      clear hZ kXq kRq o1q o2q o4q ow
      have hpl : (B.pd ++ [(z - 1, (⟨#[]⟩ : ByteArray))]).length = B.pd.length + 1 := by simp
      obtain ⟨x0, x1, x2, x3, x4, x5, x6, x7, x8⟩ := kZ.g9
      have l1 := kZ.lt
      obtain ⟨q0, q1, q2, q3, q4, q5, q6, q7, q8⟩ := RZ.g9
      obtain ⟨p0, p1, p2, p3, p4, p5, p6, p7, p8⟩ := RZ.f9
      have l2 := RZ.lt
      go_wp2
      obtain ⟨w19, h19, hB19, s19, hb19, ho19⟩ := put9n Z w.heap.size 28 (.slice A1 B.rg.length c1) (.slice A2 B.hm.length c2) (.slice (some ⟨gv, 0, none⟩) (B.pd.length + 1) cv) (.slice A4 B.dr.length c4) (.int .i64 B.sq) (.int .i64 B.bs) (.int .i64 B.sf) (.int .i64 B.at_) (.int .i64 B.df) (.slice none 0 0) (.slice none 0 0) (.slice none 0 0) (.slice none 0 0) (.int .i64 0) (.int .i64 0) (.int .i64 0) (.int .i64 0) (.int .i64 0) RZ
      rw [h19]
      clear h19 l1 l2 x0 x1 x2 x3 x4 x5 x6 x7 x8 q0 q1 q2 q3 q4 q5 q6 q7 q8 p0 p1 p2 p3 p4 p5 p6 p7 p8
      obtain ⟨r0, r1, r2, r3, r4, r5, r6, r7, r8⟩ := hB19.g9
      refine bodyPost_ret (v := .agg #[.slice A1 B.rg.length c1, .slice A2 B.hm.length c2, .slice (some ⟨gv, 0, none⟩) (B.pd.length + 1) cv, .slice A4 B.dr.length c4, .int .i64 B.sq, .int .i64 B.bs, .int .i64 B.sf, .int .i64 B.at_, .int .i64 B.df]) (by simp [results, Tryz.results25, go_sem, r0, r1, r2, r3, r4, r5, r6, r7, r8]) rfl ⟨_, _, rfl, (show OwnB4 w.heap.size (.agg #[.slice A1 B.rg.length c1, .slice A2 B.hm.length c2, .slice (some ⟨gv, 0, none⟩) (B.pd.length + 1) cv, .slice A4 B.dr.length c4, .int .i64 B.sq, .int .i64 B.bs, .int .i64 B.sf, .int .i64 B.at_, .int .i64 B.df]) ⟨B.rg, B.hm, B.pd ++ [(z - 1, ⟨#[]⟩)], B.dr, B.sq, B.bs, B.sf, B.at_, B.df⟩ w19 from ⟨A1, c1, A2, c2, some ⟨gv, 0, none⟩, cv, A4, c4, by simp only [hpl], own_more (base' := w.heap.size) (own_keep9 p1.out ho19 (by omega)) (by omega), own_more (base' := w.heap.size) (own_keep9 p2.out ho19 (by omega)) (by omega), by simpa only [hpl] using own_more (base' := w.heap.size) (own_keep9 p3.out ho19 (by omega)) (by omega), own_more (base' := w.heap.size) (own_keep9 p4.out ho19 (by omega)) (by omega)⟩), ⟨sz_small (D := ⟨B.rg, B.hm, B.pd ++ [(z - 1, ⟨#[]⟩)], B.dr, B.sq, B.bs, B.sf, B.at_, B.df⟩) (by have := (bk_is Hok.out).r; show B.rg.length ≤ 6; omega) (by have := (bk_is Hok.out).h; show B.hm.length ≤ 2; omega) (by rw [hpl]; omega) (dirOk_sz (bk_is Hok.out).d).2 Hsm.out.1 Hsm.out.2.1 (fun e he => by rcases List.mem_append.1 he with h | h; exact Hsm.out.2.2 e h; rw [List.mem_singleton] at h; subst h; exact Nat.zero_le _) (dirOk_sz (bk_is Hok.out).d).1, Hsm.out.1, Hsm.out.2.1, (fun e he => by rcases List.mem_append.1 he with h | h; exact Hsm.out.2.2 e h; rw [List.mem_singleton] at h; subst h; exact Nat.zero_le _)⟩, (cZ).bel (hb19 (g + 1) _ (by omega) (Below.refl _ _)) (by omega), gb_bel0 gZ (hb19 w.heap.size _ (Nat.le_refl _) (Below.refl _ _))⟩
  have f2 := d2 e2
  by_cases e3 : x = 3
  ·subst e3
   obtain ⟨x0, x1, x2, x3, x4, x5, x6, x7, x8⟩ := kX6.g9
   obtain ⟨y0, y1, y2, y3, y4, y5, y6, y7, y8⟩ := kX6.f9
   have l1 := kX6.lt
   go_wp2_with fail
   clear l1 x0 x1 x2 x3 x4 x5 x6 x7 x8 y0 y1 y2 y3 y4 y5 y6 y7 y8
   refine (Hb.out 4 (by omega) w6 hcu6).mono ?_
   rintro e w7 ⟨z, rfl, _, hz, hcu7, hgr7⟩
   obtain ⟨hz0, hz1⟩ := hz (by omega)
   have kX7 := blk_g kX6 hgr7 (by omega)
   have R7 := blk_g R6 hgr7 (by omega)
   have G7 := G6.trans hgr7
   have s7 := hgr7.size
   have I7 := inAt_g I6 hgr7 (by omega)
   clear kX6 R6 G6 I6 hcu6 hgr7 hz
   have wz : IntKind.i64.wrap (z - 1) = z - 1 := by rw [IntKind.wrap_i64]; omega
   have x7 := kX7.get 7 rfl
   have y7 := kX7.frozen 7
   have l1 := kX7.lt
   go_upto_region 19 with fail
   clear l1 x7 y7
   obtain ⟨Z, hZ⟩ : ∃ Z, w7.setCell ⟨X, 7, none⟩ (.int .i64 (z - 1)) = Z := ⟨_, rfl⟩
   rw [hZ]
   have kZ : Blk Z X 28 #[.slice A1 B.rg.length c1, .slice A2 B.hm.length c2, .slice A3 B.pd.length c3, .slice A4 B.dr.length c4, .int .i64 B.sq, .int .i64 B.bs, .int .i64 B.sf, .int .i64 (z - 1), .int .i64 B.df] := by rw [← hZ]; exact kX7.put 7 (.int .i64 (z - 1)) #[.slice A1 B.rg.length c1, .slice A2 B.hm.length c2, .slice A3 B.pd.length c3, .slice A4 B.dr.length c4, .int .i64 B.sq, .int .i64 B.bs, .int .i64 B.sf, .int .i64 (z - 1), .int .i64 B.df] rfl
   have RZ : Blk Z w.heap.size 28 zB_ := by rw [← hZ]; exact R7.far (p := ⟨X, 7, none⟩) (by show w.heap.size ≠ X; omega) _
   have cZ : Curs Z g A n cp bs := by rw [← hZ]; exact hcu7.bel ((Below.refl (g + 1) w7).setCell (p := ⟨X, 7, none⟩) (by show g + 1 ≤ X; omega) _) (by omega)
   have gZ : w.grownBy Z (some g) := by rw [← hZ]; exact gb_bel0 G7 ((Below.refl w.heap.size w7).setCell (p := ⟨X, 7, none⟩) (by show w.heap.size ≤ X; omega) _)
   have iZ : Hid (InAt (OwnBk lo (.agg #[.slice A1 B.rg.length c1, .slice A2 B.hm.length c2, .slice A3 B.pd.length c3, .slice A4 B.dr.length c4, .int .i64 B.sq, .int .i64 B.bs, .int .i64 B.sf, .int .i64 B.at_, .int .i64 B.df]) B) lo up Z) := Lib.hid (I7.keepL (by rw [← hZ]; exact Nat.le_of_eq (sz_sc _ _ _).symm) (fun i h1 h2 => by rw [← hZ]; exact Below.heap_setCell _ ⟨X, 7, none⟩ _ i (by show i ≠ X; omega)))
   clear hZ kX7 R7
   obtain ⟨x0, x1, x2, x3, x4, x5, x6, x7, x8⟩ := kZ.g9
   have l1 := kZ.lt
   obtain ⟨q0, q1, q2, q3, q4, q5, q6, q7, q8⟩ := RZ.g9
   obtain ⟨p0, p1, p2, p3, p4, p5, p6, p7, p8⟩ := RZ.f9
   have l2 := RZ.lt
   go_wp2
   obtain ⟨w19, h19, hB19, s19, hb19, ho19⟩ := put9n Z w.heap.size 28 (.slice A1 B.rg.length c1) (.slice A2 B.hm.length c2) (.slice A3 B.pd.length c3) (.slice A4 B.dr.length c4) (.int .i64 B.sq) (.int .i64 B.bs) (.int .i64 B.sf) (.int .i64 (z - 1)) (.int .i64 B.df) (.slice none 0 0) (.slice none 0 0) (.slice none 0 0) (.slice none 0 0) (.int .i64 0) (.int .i64 0) (.int .i64 0) (.int .i64 0) (.int .i64 0) RZ
   rw [h19]
   clear h19 l1 l2 x0 x1 x2 x3 x4 x5 x6 x7 x8 q0 q1 q2 q3 q4 q5 q6 q7 q8 p0 p1 p2 p3 p4 p5 p6 p7 p8
   obtain ⟨r0, r1, r2, r3, r4, r5, r6, r7, r8⟩ := hB19.g9
   refine bodyPost_ret (v := .agg #[.slice A1 B.rg.length c1, .slice A2 B.hm.length c2, .slice A3 B.pd.length c3, .slice A4 B.dr.length c4, .int .i64 B.sq, .int .i64 B.bs, .int .i64 B.sf, .int .i64 (z - 1), .int .i64 B.df]) (by simp [results, Tryz.results25, go_sem, r0, r1, r2, r3, r4, r5, r6, r7, r8]) rfl ⟨_, _, rfl, b4_ints ((own_b4 (iZ.out.keepN (by omega) (fun i hi => ho19 i (by omega))).is).mono (by omega)) _ _ _ _ _, ⟨HSz.out, Hsm.out⟩, (cZ).bel (hb19 (g + 1) _ (by omega) (Below.refl _ _)) (by omega), gb_bel0 gZ (hb19 w.heap.size _ (Nat.le_refl _) (Below.refl _ _))⟩
  have f3 := d3 e3
  by_cases e4 : x = 4
  ·subst e4
   obtain ⟨x0, x1, x2, x3, x4, x5, x6, x7, x8⟩ := kX6.g9
   obtain ⟨y0, y1, y2, y3, y4, y5, y6, y7, y8⟩ := kX6.f9
   have l1 := kX6.lt
   go_wp2_with fail
   clear l1 x0 x1 x2 x3 x4 x5 x6 x7 x8 y0 y1 y2 y3 y4 y5 y6 y7 y8
   refine (Hb.out 5 (by omega) w6 hcu6).mono ?_
   rintro e w7 ⟨z, rfl, _, hz, hcu7, hgr7⟩
   obtain ⟨hz0, hz1⟩ := hz (by omega)
   have kX7 := blk_g kX6 hgr7 (by omega)
   have R7 := blk_g R6 hgr7 (by omega)
   have G7 := G6.trans hgr7
   have s7 := hgr7.size
   have I7 := inAt_g I6 hgr7 (by omega)
   clear kX6 R6 G6 I6 hcu6 hgr7 hz
   have wz : IntKind.i64.wrap (z - 1) = z - 1 := by rw [IntKind.wrap_i64]; omega
   have x8 := kX7.get 8 rfl
   have y8 := kX7.frozen 8
   have l1 := kX7.lt
   go_upto_region 19 with fail
   clear l1 x8 y8
   obtain ⟨Z, hZ⟩ : ∃ Z, w7.setCell ⟨X, 8, none⟩ (.int .i64 (z)) = Z := ⟨_, rfl⟩
   rw [hZ]
   have kZ : Blk Z X 28 #[.slice A1 B.rg.length c1, .slice A2 B.hm.length c2, .slice A3 B.pd.length c3, .slice A4 B.dr.length c4, .int .i64 B.sq, .int .i64 B.bs, .int .i64 B.sf, .int .i64 B.at_, .int .i64 (z)] := by rw [← hZ]; exact kX7.put 8 (.int .i64 (z)) #[.slice A1 B.rg.length c1, .slice A2 B.hm.length c2, .slice A3 B.pd.length c3, .slice A4 B.dr.length c4, .int .i64 B.sq, .int .i64 B.bs, .int .i64 B.sf, .int .i64 B.at_, .int .i64 (z)] rfl
   have RZ : Blk Z w.heap.size 28 zB_ := by rw [← hZ]; exact R7.far (p := ⟨X, 8, none⟩) (by show w.heap.size ≠ X; omega) _
   have cZ : Curs Z g A n cp bs := by rw [← hZ]; exact hcu7.bel ((Below.refl (g + 1) w7).setCell (p := ⟨X, 8, none⟩) (by show g + 1 ≤ X; omega) _) (by omega)
   have gZ : w.grownBy Z (some g) := by rw [← hZ]; exact gb_bel0 G7 ((Below.refl w.heap.size w7).setCell (p := ⟨X, 8, none⟩) (by show w.heap.size ≤ X; omega) _)
   have iZ : Hid (InAt (OwnBk lo (.agg #[.slice A1 B.rg.length c1, .slice A2 B.hm.length c2, .slice A3 B.pd.length c3, .slice A4 B.dr.length c4, .int .i64 B.sq, .int .i64 B.bs, .int .i64 B.sf, .int .i64 B.at_, .int .i64 B.df]) B) lo up Z) := Lib.hid (I7.keepL (by rw [← hZ]; exact Nat.le_of_eq (sz_sc _ _ _).symm) (fun i h1 h2 => by rw [← hZ]; exact Below.heap_setCell _ ⟨X, 8, none⟩ _ i (by show i ≠ X; omega)))
   clear hZ kX7 R7
   obtain ⟨x0, x1, x2, x3, x4, x5, x6, x7, x8⟩ := kZ.g9
   have l1 := kZ.lt
   obtain ⟨q0, q1, q2, q3, q4, q5, q6, q7, q8⟩ := RZ.g9
   obtain ⟨p0, p1, p2, p3, p4, p5, p6, p7, p8⟩ := RZ.f9
   have l2 := RZ.lt
   go_wp2
   obtain ⟨w19, h19, hB19, s19, hb19, ho19⟩ := put9n Z w.heap.size 28 (.slice A1 B.rg.length c1) (.slice A2 B.hm.length c2) (.slice A3 B.pd.length c3) (.slice A4 B.dr.length c4) (.int .i64 B.sq) (.int .i64 B.bs) (.int .i64 B.sf) (.int .i64 B.at_) (.int .i64 (z)) (.slice none 0 0) (.slice none 0 0) (.slice none 0 0) (.slice none 0 0) (.int .i64 0) (.int .i64 0) (.int .i64 0) (.int .i64 0) (.int .i64 0) RZ
   rw [h19]
   clear h19 l1 l2 x0 x1 x2 x3 x4 x5 x6 x7 x8 q0 q1 q2 q3 q4 q5 q6 q7 q8 p0 p1 p2 p3 p4 p5 p6 p7 p8
   obtain ⟨r0, r1, r2, r3, r4, r5, r6, r7, r8⟩ := hB19.g9
   refine bodyPost_ret (v := .agg #[.slice A1 B.rg.length c1, .slice A2 B.hm.length c2, .slice A3 B.pd.length c3, .slice A4 B.dr.length c4, .int .i64 B.sq, .int .i64 B.bs, .int .i64 B.sf, .int .i64 B.at_, .int .i64 (z)]) (by simp [results, Tryz.results25, go_sem, r0, r1, r2, r3, r4, r5, r6, r7, r8]) rfl ⟨_, _, rfl, b4_ints ((own_b4 (iZ.out.keepN (by omega) (fun i hi => ho19 i (by omega))).is).mono (by omega)) _ _ _ _ _, ⟨HSz.out, Hsm.out⟩, (cZ).bel (hb19 (g + 1) _ (by omega) (Below.refl _ _)) (by omega), gb_bel0 gZ (hb19 w.heap.size _ (Nat.le_refl _) (Below.refl _ _))⟩
  have f4 := d4 e4
  obtain ⟨x0, x1, x2, x3, x4, x5, x6, x7, x8⟩ := kX6.g9
  obtain ⟨y0, y1, y2, y3, y4, y5, y6, y7, y8⟩ := kX6.f9
  have l1 := kX6.lt
  go_wp2_with fail
  clear l1 x0 x1 x2 x3 x4 x5 x6 x7 x8 y0 y1 y2 y3 y4 y5 y6 y7 y8
  refine (Hb.out 8 (by omega) w6 hcu6).mono ?_
  rintro e w7 ⟨z, rfl, _, hz, hcu7, hgr7⟩
  obtain ⟨hz0, hz1⟩ := hz (by omega)
  have kX7 := blk_g kX6 hgr7 (by omega)
  have R7 := blk_g R6 hgr7 (by omega)
  have G7 := G6.trans hgr7
  have s7 := hgr7.size
  have I7 := inAt_g I6 hgr7 (by omega)
  clear kX6 R6 G6 I6 hcu6 hgr7 hz
  have wz : IntKind.i64.wrap (z - 1) = z - 1 := by rw [IntKind.wrap_i64]; omega
  have x6 := kX7.get 6 rfl
  have y6 := kX7.frozen 6
  have l1 := kX7.lt
  go_upto_region 19 with fail
  clear l1 x6 y6
  obtain ⟨Z, hZ⟩ : ∃ Z, w7.setCell ⟨X, 6, none⟩ (.int .i64 (z)) = Z := ⟨_, rfl⟩
  rw [hZ]
  have kZ : Blk Z X 28 #[.slice A1 B.rg.length c1, .slice A2 B.hm.length c2, .slice A3 B.pd.length c3, .slice A4 B.dr.length c4, .int .i64 B.sq, .int .i64 B.bs, .int .i64 (z), .int .i64 B.at_, .int .i64 B.df] := by rw [← hZ]; exact kX7.put 6 (.int .i64 (z)) #[.slice A1 B.rg.length c1, .slice A2 B.hm.length c2, .slice A3 B.pd.length c3, .slice A4 B.dr.length c4, .int .i64 B.sq, .int .i64 B.bs, .int .i64 (z), .int .i64 B.at_, .int .i64 B.df] rfl
  have RZ : Blk Z w.heap.size 28 zB_ := by rw [← hZ]; exact R7.far (p := ⟨X, 6, none⟩) (by show w.heap.size ≠ X; omega) _
  have cZ : Curs Z g A n cp bs := by rw [← hZ]; exact hcu7.bel ((Below.refl (g + 1) w7).setCell (p := ⟨X, 6, none⟩) (by show g + 1 ≤ X; omega) _) (by omega)
  have gZ : w.grownBy Z (some g) := by rw [← hZ]; exact gb_bel0 G7 ((Below.refl w.heap.size w7).setCell (p := ⟨X, 6, none⟩) (by show w.heap.size ≤ X; omega) _)
  have iZ : Hid (InAt (OwnBk lo (.agg #[.slice A1 B.rg.length c1, .slice A2 B.hm.length c2, .slice A3 B.pd.length c3, .slice A4 B.dr.length c4, .int .i64 B.sq, .int .i64 B.bs, .int .i64 B.sf, .int .i64 B.at_, .int .i64 B.df]) B) lo up Z) := Lib.hid (I7.keepL (by rw [← hZ]; exact Nat.le_of_eq (sz_sc _ _ _).symm) (fun i h1 h2 => by rw [← hZ]; exact Below.heap_setCell _ ⟨X, 6, none⟩ _ i (by show i ≠ X; omega)))
  clear hZ kX7 R7
  obtain ⟨x0, x1, x2, x3, x4, x5, x6, x7, x8⟩ := kZ.g9
  have l1 := kZ.lt
  obtain ⟨q0, q1, q2, q3, q4, q5, q6, q7, q8⟩ := RZ.g9
  obtain ⟨p0, p1, p2, p3, p4, p5, p6, p7, p8⟩ := RZ.f9
  have l2 := RZ.lt
  go_wp2
  obtain ⟨w19, h19, hB19, s19, hb19, ho19⟩ := put9n Z w.heap.size 28 (.slice A1 B.rg.length c1) (.slice A2 B.hm.length c2) (.slice A3 B.pd.length c3) (.slice A4 B.dr.length c4) (.int .i64 B.sq) (.int .i64 B.bs) (.int .i64 (z)) (.int .i64 B.at_) (.int .i64 B.df) (.slice none 0 0) (.slice none 0 0) (.slice none 0 0) (.slice none 0 0) (.int .i64 0) (.int .i64 0) (.int .i64 0) (.int .i64 0) (.int .i64 0) RZ
  rw [h19]
  clear h19 l1 l2 x0 x1 x2 x3 x4 x5 x6 x7 x8 q0 q1 q2 q3 q4 q5 q6 q7 q8 p0 p1 p2 p3 p4 p5 p6 p7 p8
  obtain ⟨r0, r1, r2, r3, r4, r5, r6, r7, r8⟩ := hB19.g9
  refine bodyPost_ret (v := .agg #[.slice A1 B.rg.length c1, .slice A2 B.hm.length c2, .slice A3 B.pd.length c3, .slice A4 B.dr.length c4, .int .i64 B.sq, .int .i64 B.bs, .int .i64 (z), .int .i64 B.at_, .int .i64 B.df]) (by simp [results, Tryz.results25, go_sem, r0, r1, r2, r3, r4, r5, r6, r7, r8]) rfl ⟨_, _, rfl, b4_ints ((own_b4 (iZ.out.keepN (by omega) (fun i hi => ho19 i (by omega))).is).mono (by omega)) _ _ _ _ _, ⟨HSz.out, Hsm.out⟩, (cZ).bel (hb19 (g + 1) _ (by omega) (Below.refl _ _)) (by omega), gb_bel0 gZ (hb19 w.heap.size _ (Nat.le_refl _) (Below.refl _ _))⟩

end Go.Proofs.YtghgafbfpejinaaGreatDoor
