/- What is drawn to be done to a book. -/
import Derived.Test.YtghgafbfpejinaaGreatDoorRBkHm
import Derived.Test.YtghgafbfpejinaaGreatDoorRBkJ2
import Derived.Test.YtghgafbfpejinaaGreatDoorRDraw8
import Derived.Deep.RegionHeld3
namespace Go.Proofs.YtghgafbfpejinaaGreatDoor
open Go Go.RowKit

theorem mem4_iw {G P : (Int) → (World) → Prop} {R : Prop} (use : (∀ (x0 : Int) (x1 : World), P x0 x1 → G x0 x1) → R) (key : ∀ (x0 : Int) (x1 : World), P x0 x1 → G x0 x1) : R := use key
theorem mem4_nw {G P : (Nat) → (World) → Prop} {R : Prop} (use : (∀ (x0 : Nat) (x1 : World), P x0 x1 → G x0 x1) → R) (key : ∀ (x0 : Nat) (x1 : World), P x0 x1 → G x0 x1) : R := use key
theorem mem4_nnviw {G P : (Nat) → (Nat) → (Value) → (Int) → (World) → Prop} {R : Prop} (use : (∀ (x0 : Nat) (x1 : Nat) (x2 : Value) (x3 : Int) (x4 : World), P x0 x1 x2 x3 x4 → G x0 x1 x2 x3 x4) → R) (key : ∀ (x0 : Nat) (x1 : Nat) (x2 : Value) (x3 : Int) (x4 : World), P x0 x1 x2 x3 x4 → G x0 x1 x2 x3 x4) : R := use key
theorem mem4_niw {G P : (Nat) → (Int) → (World) → Prop} {R : Prop} (use : (∀ (x0 : Nat) (x1 : Int) (x2 : World), P x0 x1 x2 → G x0 x1 x2) → R) (key : ∀ (x0 : Nat) (x1 : Int) (x2 : World), P x0 x1 x2 → G x0 x1 x2) : R := use key
theorem mem4_nnnviw {G P : (Nat) → (Nat) → (Nat) → (Value) → (Int) → (World) → Prop} {R : Prop} (use : (∀ (x0 : Nat) (x1 : Nat) (x2 : Nat) (x3 : Value) (x4 : Int) (x5 : World), P x0 x1 x2 x3 x4 x5 → G x0 x1 x2 x3 x4 x5) → R) (key : ∀ (x0 : Nat) (x1 : Nat) (x2 : Nat) (x3 : Value) (x4 : Int) (x5 : World), P x0 x1 x2 x3 x4 x5 → G x0 x1 x2 x3 x4 x5) : R := use key
theorem mem4_iibw {G P : (Int) → (Int) → (ByteArray) → (World) → Prop} {R : Prop} (use : (∀ (x0 : Int) (x1 : Int) (x2 : ByteArray) (x3 : World), P x0 x1 x2 x3 → G x0 x1 x2 x3) → R) (key : ∀ (x0 : Int) (x1 : Int) (x2 : ByteArray) (x3 : World), P x0 x1 x2 x3 → G x0 x1 x2 x3) : R := use key
theorem mem4_iinbnvw {G P : (Int) → (Int) → (Nat) → (ByteArray) → (Nat) → (Value) → (World) → Prop} {R : Prop} (use : (∀ (x0 : Int) (x1 : Int) (x2 : Nat) (x3 : ByteArray) (x4 : Nat) (x5 : Value) (x6 : World), P x0 x1 x2 x3 x4 x5 x6 → G x0 x1 x2 x3 x4 x5 x6) → R) (key : ∀ (x0 : Int) (x1 : Int) (x2 : Nat) (x3 : ByteArray) (x4 : Nat) (x5 : Value) (x6 : World), P x0 x1 x2 x3 x4 x5 x6 → G x0 x1 x2 x3 x4 x5 x6) : R := use key
theorem mem4_niibw {G P : (Nat) → (Int) → (Int) → (ByteArray) → (World) → Prop} {R : Prop} (use : (∀ (x0 : Nat) (x1 : Int) (x2 : Int) (x3 : ByteArray) (x4 : World), P x0 x1 x2 x3 x4 → G x0 x1 x2 x3 x4) → R) (key : ∀ (x0 : Nat) (x1 : Int) (x2 : Int) (x3 : ByteArray) (x4 : World), P x0 x1 x2 x3 x4 → G x0 x1 x2 x3 x4) : R := use key
theorem mem4_niinbnvw {G P : (Nat) → (Int) → (Int) → (Nat) → (ByteArray) → (Nat) → (Value) → (World) → Prop} {R : Prop} (use : (∀ (x0 : Nat) (x1 : Int) (x2 : Int) (x3 : Nat) (x4 : ByteArray) (x5 : Nat) (x6 : Value) (x7 : World), P x0 x1 x2 x3 x4 x5 x6 x7 → G x0 x1 x2 x3 x4 x5 x6 x7) → R) (key : ∀ (x0 : Nat) (x1 : Int) (x2 : Int) (x3 : Nat) (x4 : ByteArray) (x5 : Nat) (x6 : Value) (x7 : World), P x0 x1 x2 x3 x4 x5 x6 x7 → G x0 x1 x2 x3 x4 x5 x6 x7) : R := use key
theorem inAt_g {I : World → Prop} {lo up g : Nat} {w w' : World} (h : InAt I lo up w) (hg : w.grownBy w' (some g)) (hgl : g < lo) : InAt I lo up w' :=
 ⟨Nat.le_trans h.1 hg.size, fun w'' a b => h.2 w'' a fun i h4 h5 => (b i h4 h5).trans (hg.block i (Nat.lt_of_lt_of_le h5 h.1) (fun e => by injection e with e; omega))⟩
theorem Curs.drew' {w : World} {g : Nat} {A : Option Addr} {n cp : Nat} {bs : List UInt8} (h : Curs w g A n cp bs) : Curs w.drew g A n cp bs := h.below (bel0 w).drew
/-- Small texts. -/
def SmB (B : BookD) : Prop := SzL 1000 B.rg ∧ SzL 1000 B.hm ∧ ∀ e ∈ B.pd, e.2.size ≤ 1000
theorem sum_le {α : Type} (f : α → Nat) (B : Nat) : ∀ (l : List α), (∀ x ∈ l, f x ≤ B) → (l.map f).sum ≤ l.length * B
 | [], _ => by simp
 | a :: l, h => by
  have h1 := h a (List.mem_cons_self ..)
  have h2 := sum_le f B l (fun x hx => h x (List.mem_cons_of_mem _ hx))
  simp only [List.map_cons, List.sum_cons, List.length_cons, Nat.add_mul, Nat.one_mul]
  omega
theorem smB_sz {B : BookD} (h : bookOkB B = true) (hs : SmB B) : szBk B ≤ 1048576 := by
 obtain ⟨p, r, hh, q, d, hb, f, m, ss, a, c⟩ := bk_is h
 obtain ⟨s1, s2, s3⟩ := hs
 have h1 := sum_le (fun s : ByteArray => s.size) 1000 B.rg s1
 have h2 := sum_le (fun s : ByteArray => s.size) 1000 B.hm s2
 have h3 := sum_le (fun e : Int × ByteArray => e.2.size) 1000 B.pd s3
 have hd := dirOk_sz d
 have h4 := sum_le (fun e : EntD => e.s.size) 24 B.dr hd.1
 have h5 : B.dr.length * 24 ≤ 12 * 24 := Nat.mul_le_mul_right _ hd.2
 have h6 : B.pd.length * 1000 ≤ 20 * 1000 := Nat.mul_le_mul_right _ q
 rw [r] at h1
 rw [hh] at h2
 unfold szBk szT szW szS
 omega
theorem recB_small (q : Int) (t : ByteArray) : (showRecB q t).size ≤ 1000 := by
 unfold showRecB
 split
 ·rename_i h
  simp only [Bool.and_eq_true, decide_eq_true_eq] at h
  have := varB_size q
  rw [sumB_size]
  unfold recB
  rw [ByteArray.size_append, ByteArray.size_append]
  have h2 : (str [114]).size = 1 := str_size _
  omega
 ·have : (str []).size = 0 := rfl
  omega
theorem homeB_small (q : Int) (ds : List EntD) : (showHomeB q ds).size ≤ 1000 := by
 unfold showHomeB
 split
 ·rename_i h
  rw [Bool.and_eq_true] at h
  have h12 := (dirOkB_iff.1 h.2).1
  have h1 := homeF_size q ds ds h12 (s_short h.2)
  rw [sumB_size]; omega
 ·exact Nat.zero_le _
theorem flB_small {B : BookD} (h : bookOkB B = true) (hs : SmB B) : SmB (flB B) := by
 have h20 : B.pd.length ≤ 20 := (bk_is h).q
 have hw := wrs_wrm 1048575 B.rg B.hm B.pd B.pd.length (Nat.le_refl _) (fun k hk => allBits k (by omega))
 have h1 := wrm_sz (m := 1048575) hs.1 hs.2.1 hs.2.2 B.pd.length
 rw [← hw] at h1
 exact ⟨h1.1, h1.2, fun e he => absurd he (List.not_mem_nil)⟩
theorem doBk_small {B B' : BookD} {k : Int} {s : ByteArray} {i : Int} {b : Bool} (h : bookOkB B = true) (hs : SmB B) (hd : doBk B k s i = (B', b)) : SmB B' := by
 by_cases h2 : opOkB k s i = true ∧ (doP B.dr k s i).2 = true ∧ B.sq < B.bs + 6 ∧ B.sq < 1000000 ∧ B.pd.length < 20
 ·rw [doBk_yes h h2] at hd
  injection hd with hd _
  subst hd
  refine ⟨hs.1, hs.2.1, fun e he => ?_⟩
  rcases List.mem_append.1 he with he | he
  ·exact hs.2.2 e he
  ·rw [List.mem_singleton] at he; subst he; exact recB_small _ _
 ·rw [doBk_no h h2] at hd
  injection hd with hd _
  subst hd
  exact hs
theorem homeBk_small {B B' : BookD} {b : Bool} (h : bookOkB B = true) (hs : SmB B) (hd : homeBk B = (B', b)) : SmB B' := by
 by_cases h2 : B.df ≠ 0 ∨ B.sq = B.bs
 ·rw [homeBk_no h h2] at hd
  injection hd with hd _
  subst hd
  exact hs
 ·rw [homeBk_yes h h2] at hd
  injection hd with hd _
  subst hd
  have h1 := flB_small h hs
  exact ⟨h1.1, h1.2.1, fun e he => by rw [List.mem_singleton] at he; subst he; exact homeB_small _ _⟩
theorem fallN_small {N : Nat} {L : List ByteArray} (hL : SzL N L) : ∀ (n : Nat) (ds : List EntD) (q : Int) (rg : List ByteArray), SzL N rg → SzL N (fallN L n ds q rg).2.2
 | 0, ds, q, rg, h => h
 | n + 1, ds, q, rg, h => by
  cases hS : fallS L ds q with
  | none => rw [fallN_stop hS]; exact h
  | some ds' =>
   rw [fallN_go hS]
   refine fallN_small hL n _ _ _ (h.set ?_)
   unfold at6
   exact getD_sz hL _
theorem fallP_small {B B' : BookD} {m : Int} {b : Bool} (h : bookOkB B = true) (hs : SmB B) (hf : fallP B m = (B', b)) : SmB B' := by
 obtain ⟨⟨rg, hm⟩, hw⟩ : ∃ p, wrmB m B.rg B.hm B.pd B.pd.length = p := ⟨_, rfl⟩
 have hz := wrm_sz (m := m) hs.1 hs.2.1 hs.2.2 B.pd.length
 rw [hw] at hz
 by_cases ha : (hmN hm 2).at_ < 0
 ·rw [fall_none h hw ha] at hf
  injection hf with h1 h2
  subst h1
  exact hs
 ·rw [fall_some h hw ha rfl] at hf
  injection hf with h1 h2
  subst h1
  refine ⟨fallN_small hz.1 _ _ _ _ (fun s hs' => ?_), hz.2, fun e he => absurd he (List.not_mem_nil)⟩
  have := List.eq_of_mem_replicate hs'
  rw [this]; exact Nat.zero_le _

/-- Some right book, small, in memory of one's own between marks. -/
def BkO (m lo up : Nat) (v : Value) (w : World) : Prop := m ≤ lo ∧ ∃ B, InAt (OwnBk lo v B) lo up w ∧ bookOkB B = true ∧ SmB B
theorem BkO.next {m lo up : Nat} {v : Value} {w w' : World} (h : BkO m lo up v w) (hb : Below w.heap.size w w') : BkO m lo up v w' := by
 obtain ⟨h0, B, h1, h2, h3⟩ := h
 exact ⟨h0, B, h1.next hb, h2, h3⟩
theorem BkO.same {m lo up : Nat} {v : Value} {w w' : World} (h : BkO m lo up v w) (hs : w.heap.size ≤ w'.heap.size) (he : ∀ i, lo ≤ i → i < up → w'.heap[i]? = w.heap[i]?) : BkO m lo up v w' := by
 obtain ⟨h0, B, h1, h2, h3⟩ := h
 exact ⟨h0, B, ⟨Nat.le_trans h1.1 hs, fun w'' a b => h1.2 w'' a fun i h4 h5 => (b i h4 h5).trans (he i h4 h5)⟩, h2, h3⟩
theorem BkO.up {m lo up : Nat} {v : Value} {w : World} (h : BkO m lo up v w) : up ≤ w.heap.size := by
 obtain ⟨_, B, h1, _⟩ := h; exact h1.1
set_option maxRecDepth 100000 in
set_option maxHeartbeats 8000000 in
theorem l25Act_any (g : Nat) (A : Option Addr) (n cp : Nat) (bs : List UInt8) (hn : n ≤ 9223372036854775806) (lo up : Nat) (v : Value) (w : World) (hgl : g < lo) (hv : BkO lo lo up v w) (h : Curs w g A n cp bs) :
  Calls Tryz.prog 64 #[.pointer (some ⟨g, 0, none⟩), v] w fun e w' => ∃ v' lo' up', e = .returned v' ∧ BkO w.heap.size lo' up' v' w' ∧ Curs w' g A n cp bs ∧ w.grownBy w' (some g) := by
 have hlt := h.lt
 obtain ⟨_, B, hin, hok, hsm⟩ := hv
 obtain ⟨A1, c1, A2, c2, A3, c3, A4, c4, rfl, _⟩ := hin.is.isBk
 have Hok := Lib.hid hok
 have Hsm := Lib.hid hsm
 have HSz := Lib.hid (smB_sz hok hsm)
 clear hok hsm
 obtain ⟨W1, hW1⟩ : ∃ W, (w.alloc (.cells #[.slice A1 B.rg.length c1, .slice A2 B.hm.length c2, .slice A3 B.pd.length c3, .slice A4 B.dr.length c4, .int .i64 B.sq, .int .i64 B.bs, .int .i64 B.sf, .int .i64 B.at_, .int .i64 B.df] 28)).alloc (.cells zB_ 28) = W := ⟨_, rfl⟩
 have K1 : Blk W1 w.heap.size 28 #[.slice A1 B.rg.length c1, .slice A2 B.hm.length c2, .slice A3 B.pd.length c3, .slice A4 B.dr.length c4, .int .i64 B.sq, .int .i64 B.bs, .int .i64 B.sf, .int .i64 B.at_, .int .i64 B.df] := by rw [← hW1]; exact (Blk.new' _ _ _ _ rfl).alloc _
 have R1 : Blk W1 (w.heap.size + 1) 28 zB_ := by rw [← hW1]; exact Blk.new' _ _ _ _ (by simp)
 have B1 : Below w.heap.size w W1 := by rw [← hW1]; exact belA (belA (bel0 w) _) _
 have S1 : W1.heap.size = w.heap.size + 2 := by rw [← hW1]; simp
 have I1 := hin.next B1
 have C1 := h.below B1
 have G1 : w.grownBy W1 (some g) := gb_below (grown_refl _ _) B1
 have HW1 := Lib.hid hW1
 clear hW1 h hin
 go_enter Tryz.func64, Tryz.ntmps64
 go_wp2_with fail
 rw [HW1.out]
 refine (l1Below_any g A n cp bs hn 9 (by omega) W1 C1).mono ?_
 rintro e w2 ⟨x, rfl, _, hx, C2, hg2⟩
 obtain ⟨hx0, hx1⟩ := hx (by omega)
 have K2 := blk_g K1 hg2 (by omega)
 have R2 := blk_g R1 hg2 (by omega)
 have G2 := G1.trans hg2
 have s2 := hg2.size
 have I2 : InAt (OwnBk lo (.agg #[.slice A1 B.rg.length c1, .slice A2 B.hm.length c2, .slice A3 B.pd.length c3, .slice A4 B.dr.length c4, .int .i64 B.sq, .int .i64 B.bs, .int .i64 B.sf, .int .i64 B.at_, .int .i64 B.df]) B) lo up w2 := ⟨Nat.le_trans I1.1 hg2.size, fun w'' a b => I1.2 w'' a fun i h4 h5 => (b i h4 h5).trans (hg2.block i (Nat.lt_of_lt_of_le h5 I1.1) (fun e => by injection e with e; omega))⟩
 clear K1 R1 C1 G1 I1 hg2 HW1 hx
 have his := Lib.hid I2.is.isBk
 by_cases e0 : x = 0
 ·subst e0
  obtain ⟨k0, k1, k2, k3, k4, k5, k6, k7, k8⟩ := K2.g9
  have lk := K2.lt
  obtain ⟨⟨B', b'⟩, hP⟩ : ∃ p, flushP B = p := ⟨_, rfl⟩
  have hok' : bookOkB B' = true := by have h := hP; rw [flush_yes Hok.out] at h; injection h with h _; rw [← h]; exact flB_ok Hok.out
  have hsm' : SmB B' := by have h := hP; rw [flush_yes Hok.out] at h; injection h with h _; rw [← h]; exact flB_small Hok.out Hsm.out
  have HP := Lib.hid hP
  clear hP
  go_wp2_with fail
  clear lk k0 k1 k2 k3 k4 k5 k6 k7 k8
  refine (bookFlush_spec _ B HSz.out HP.out w2 his.out).mono ?_
  rintro e w3 ⟨v', lo', up', rfl, hlo', hin', hb3⟩
  have R3 := R2.below hb3 R2.lt
  have C3 := C2.below hb3
  have G3 := gb_below G2 hb3
  have s3 := hb3.size
  clear K2 R2 C2 G2 I2 his
  obtain ⟨F1, f1, F2, f2, F3, f3, F4, f4, rfl, _⟩ := hin'.is.isBk
  have J3 := Lib.hid (show BkO w.heap.size lo' up' _ w3 from ⟨by omega, B', hin', hok', hsm'⟩)
  clear hin'
  have hbA : Below w3.heap.size w3 (w3.alloc (.cells #[.slice F1 B'.rg.length f1, .slice F2 B'.hm.length f2, .slice F3 B'.pd.length f3, .slice F4 B'.dr.length f4, .int .i64 B'.sq, .int .i64 B'.bs, .int .i64 B'.sf, .int .i64 B'.at_, .int .i64 B'.df] 28)) := belA (bel0 _) _
  have R4 := R3.alloc (.cells #[.slice F1 B'.rg.length f1, .slice F2 B'.hm.length f2, .slice F3 B'.pd.length f3, .slice F4 B'.dr.length f4, .int .i64 B'.sq, .int .i64 B'.bs, .int .i64 B'.sf, .int .i64 B'.at_, .int .i64 B'.df] 28)
  have C4 := C3.alloc (.cells #[.slice F1 B'.rg.length f1, .slice F2 B'.hm.length f2, .slice F3 B'.pd.length f3, .slice F4 B'.dr.length f4, .int .i64 B'.sq, .int .i64 B'.bs, .int .i64 B'.sf, .int .i64 B'.at_, .int .i64 B'.df] 28)
  have G4 := gb_below G3 hbA
  have J4 := Lib.hid (J3.out.next hbA)
  have s4 := hbA.size
  obtain ⟨q0, q1, q2, q3, q4, q5, q6, q7, q8⟩ := R4.g9
  obtain ⟨p0, p1, p2, p3, p4, p5, p6, p7, p8⟩ := R4.f9
  have l2 := R4.lt
  go_wp2
  obtain ⟨w9, h9, hB9, s9, hb9, ho9⟩ := put9n (w3.alloc (.cells #[.slice F1 B'.rg.length f1, .slice F2 B'.hm.length f2, .slice F3 B'.pd.length f3, .slice F4 B'.dr.length f4, .int .i64 B'.sq, .int .i64 B'.bs, .int .i64 B'.sf, .int .i64 B'.at_, .int .i64 B'.df] 28)) (w.heap.size + 1) 28 (.slice F1 B'.rg.length f1) (.slice F2 B'.hm.length f2) (.slice F3 B'.pd.length f3) (.slice F4 B'.dr.length f4) (.int .i64 B'.sq) (.int .i64 B'.bs) (.int .i64 B'.sf) (.int .i64 B'.at_) (.int .i64 B'.df) (.slice none 0 0) (.slice none 0 0) (.slice none 0 0) (.slice none 0 0) (.int .i64 0) (.int .i64 0) (.int .i64 0) (.int .i64 0) (.int .i64 0) R4
  rw [h9]
  clear h9 l2 q0 q1 q2 q3 q4 q5 q6 q7 q8 p0 p1 p2 p3 p4 p5 p6 p7 p8
  obtain ⟨r0, r1, r2, r3, r4, r5, r6, r7, r8⟩ := hB9.g9
  refine bodyPost_ret (v := .agg #[.slice F1 B'.rg.length f1, .slice F2 B'.hm.length f2, .slice F3 B'.pd.length f3, .slice F4 B'.dr.length f4, .int .i64 B'.sq, .int .i64 B'.bs, .int .i64 B'.sf, .int .i64 B'.at_, .int .i64 B'.df]) (by simp [results, Tryz.results64, go_sem, r0, r1, r2, r3, r4, r5, r6, r7, r8]) rfl ⟨_, lo', up', rfl, J4.out.same (by omega) (fun j h1 h2 => ho9 j (by omega)), C4.bel (hb9 (g + 1) _ (by omega) (Below.refl _ _)) (by omega), gb_bel0 G4 (hb9 w.heap.size _ (by omega) (Below.refl _ _))⟩
 have d0 : (x == 0) = false := beq_eq_false_iff_ne.2 e0
 by_cases e1 : x = 1
 ·subst e1
  obtain ⟨k0, k1, k2, k3, k4, k5, k6, k7, k8⟩ := K2.g9
  have lk := K2.lt
  obtain ⟨⟨B', b'⟩, hP⟩ : ∃ p, homeBk B = p := ⟨_, rfl⟩
  have hok' : bookOkB B' = true := homeBk_ok Hok.out hP
  have hsm' : SmB B' := homeBk_small Hok.out Hsm.out hP
  have HP := Lib.hid hP
  clear hP
  go_wp2_with fail
  clear lk k0 k1 k2 k3 k4 k5 k6 k7 k8
  refine (bookHome_spec _ B HSz.out HP.out w2 his.out).mono ?_
  rintro e w3 ⟨v', lo', up', rfl, hlo', hin', hb3⟩
  have R3 := R2.below hb3 R2.lt
  have C3 := C2.below hb3
  have G3 := gb_below G2 hb3
  have s3 := hb3.size
  clear K2 R2 C2 G2 I2 his
  obtain ⟨F1, f1, F2, f2, F3, f3, F4, f4, rfl, _⟩ := hin'.is.isBk
  have J3 := Lib.hid (show BkO w.heap.size lo' up' _ w3 from ⟨by omega, B', hin', hok', hsm'⟩)
  clear hin'
  have hbA : Below w3.heap.size w3 (w3.alloc (.cells #[.slice F1 B'.rg.length f1, .slice F2 B'.hm.length f2, .slice F3 B'.pd.length f3, .slice F4 B'.dr.length f4, .int .i64 B'.sq, .int .i64 B'.bs, .int .i64 B'.sf, .int .i64 B'.at_, .int .i64 B'.df] 28)) := belA (bel0 _) _
  have R4 := R3.alloc (.cells #[.slice F1 B'.rg.length f1, .slice F2 B'.hm.length f2, .slice F3 B'.pd.length f3, .slice F4 B'.dr.length f4, .int .i64 B'.sq, .int .i64 B'.bs, .int .i64 B'.sf, .int .i64 B'.at_, .int .i64 B'.df] 28)
  have C4 := C3.alloc (.cells #[.slice F1 B'.rg.length f1, .slice F2 B'.hm.length f2, .slice F3 B'.pd.length f3, .slice F4 B'.dr.length f4, .int .i64 B'.sq, .int .i64 B'.bs, .int .i64 B'.sf, .int .i64 B'.at_, .int .i64 B'.df] 28)
  have G4 := gb_below G3 hbA
  have J4 := Lib.hid (J3.out.next hbA)
  have s4 := hbA.size
  obtain ⟨q0, q1, q2, q3, q4, q5, q6, q7, q8⟩ := R4.g9
  obtain ⟨p0, p1, p2, p3, p4, p5, p6, p7, p8⟩ := R4.f9
  have l2 := R4.lt
  go_wp2
  obtain ⟨w9, h9, hB9, s9, hb9, ho9⟩ := put9n (w3.alloc (.cells #[.slice F1 B'.rg.length f1, .slice F2 B'.hm.length f2, .slice F3 B'.pd.length f3, .slice F4 B'.dr.length f4, .int .i64 B'.sq, .int .i64 B'.bs, .int .i64 B'.sf, .int .i64 B'.at_, .int .i64 B'.df] 28)) (w.heap.size + 1) 28 (.slice F1 B'.rg.length f1) (.slice F2 B'.hm.length f2) (.slice F3 B'.pd.length f3) (.slice F4 B'.dr.length f4) (.int .i64 B'.sq) (.int .i64 B'.bs) (.int .i64 B'.sf) (.int .i64 B'.at_) (.int .i64 B'.df) (.slice none 0 0) (.slice none 0 0) (.slice none 0 0) (.slice none 0 0) (.int .i64 0) (.int .i64 0) (.int .i64 0) (.int .i64 0) (.int .i64 0) R4
  rw [h9]
  clear h9 l2 q0 q1 q2 q3 q4 q5 q6 q7 q8 p0 p1 p2 p3 p4 p5 p6 p7 p8
  obtain ⟨r0, r1, r2, r3, r4, r5, r6, r7, r8⟩ := hB9.g9
  refine bodyPost_ret (v := .agg #[.slice F1 B'.rg.length f1, .slice F2 B'.hm.length f2, .slice F3 B'.pd.length f3, .slice F4 B'.dr.length f4, .int .i64 B'.sq, .int .i64 B'.bs, .int .i64 B'.sf, .int .i64 B'.at_, .int .i64 B'.df]) (by simp [results, Tryz.results64, go_sem, r0, r1, r2, r3, r4, r5, r6, r7, r8]) rfl ⟨_, lo', up', rfl, J4.out.same (by omega) (fun j h1 h2 => ho9 j (by omega)), C4.bel (hb9 (g + 1) _ (by omega) (Below.refl _ _)) (by omega), gb_bel0 G4 (hb9 w.heap.size _ (by omega) (Below.refl _ _))⟩
 have d1 : (x == 1) = false := beq_eq_false_iff_ne.2 e1
 by_cases e2 : x = 2
 ·subst e2
  obtain ⟨k0, k1, k2, k3, k4, k5, k6, k7, k8⟩ := K2.g9
  have lk := K2.lt
  go_wp2_with fail
  clear lk
  refine wp_region_held_drew (S := fun w' => w'.cell? ⟨w.heap.size, 0, none⟩ = some (.slice A1 B.rg.length c1) ∧ w'.cell? ⟨w.heap.size, 1, none⟩ = some (.slice A2 B.hm.length c2) ∧ w'.cell? ⟨w.heap.size, 2, none⟩ = some (.slice A3 B.pd.length c3) ∧ w'.cell? ⟨w.heap.size, 3, none⟩ = some (.slice A4 B.dr.length c4) ∧ w'.cell? ⟨w.heap.size, 4, none⟩ = some (.int .i64 B.sq) ∧ w'.cell? ⟨w.heap.size, 5, none⟩ = some (.int .i64 B.bs) ∧ w'.cell? ⟨w.heap.size, 6, none⟩ = some (.int .i64 B.sf) ∧ w'.cell? ⟨w.heap.size, 7, none⟩ = some (.int .i64 B.at_) ∧ w'.cell? ⟨w.heap.size, 8, none⟩ = some (.int .i64 B.df)) (by kernel_rfl) (by exact K2.g9) (fun hHeld => ?_)
  clear hHeld
  refine foldH ?_
  intro r hr0
  have bw : w2.grownBy r (some g) := by rw [hr0]; exact gb_below (grown_refl _ _) (bel0 w2).drew
  have kK : Blk r w.heap.size 28 #[.slice A1 B.rg.length c1, .slice A2 B.hm.length c2, .slice A3 B.pd.length c3, .slice A4 B.dr.length c4, .int .i64 B.sq, .int .i64 B.bs, .int .i64 B.sf, .int .i64 B.at_, .int .i64 B.df] := by rw [hr0]; exact K2.drew
  have kR : Blk r (w.heap.size + 1) 28 zB_ := by rw [hr0]; exact R2.drew
  have pC : Curs r g A n cp bs := by rw [hr0]; exact C2.drew'
  have pI : InAt (OwnBk lo (.agg #[.slice A1 B.rg.length c1, .slice A2 B.hm.length c2, .slice A3 B.pd.length c3, .slice A4 B.dr.length c4, .int .i64 B.sq, .int .i64 B.bs, .int .i64 B.sf, .int .i64 B.at_, .int .i64 B.df]) B) lo up r := by rw [hr0]; exact I2.next (bel0 w2).drew
  clear hr0
  apply mem4_nnnviw (P := fun aX lo' up' v' y q => w2.grownBy q (some g) ∧ Blk q w.heap.size 28 #[.slice A1 B.rg.length c1, .slice A2 B.hm.length c2, .slice A3 B.pd.length c3, .slice A4 B.dr.length c4, .int .i64 B.sq, .int .i64 B.bs, .int .i64 B.sf, .int .i64 B.at_, .int .i64 B.df] ∧ Blk q (w.heap.size + 1) 28 zB_ ∧ Blk q aX 28 zB_ ∧ Curs q g A n cp bs ∧ InAt (OwnBk lo (.agg #[.slice A1 B.rg.length c1, .slice A2 B.hm.length c2, .slice A3 B.pd.length c3, .slice A4 B.dr.length c4, .int .i64 B.sq, .int .i64 B.bs, .int .i64 B.sf, .int .i64 B.at_, .int .i64 B.df]) B) lo up q ∧ BkO w2.heap.size lo' up' v' q ∧ y ≤ 255 ∧ w2.heap.size ≤ aX ∧ (aX < lo' ∨ up' ≤ aX))
  case use =>
   intro key_af_2_3_7
   apply mem4_niw (P := fun aX y q => w2.grownBy q (some g) ∧ Blk q w.heap.size 28 #[.slice A1 B.rg.length c1, .slice A2 B.hm.length c2, .slice A3 B.pd.length c3, .slice A4 B.dr.length c4, .int .i64 B.sq, .int .i64 B.bs, .int .i64 B.sf, .int .i64 B.at_, .int .i64 B.df] ∧ Blk q (w.heap.size + 1) 28 zB_ ∧ Blk q aX 28 zB_ ∧ Curs q g A n cp bs ∧ InAt (OwnBk lo (.agg #[.slice A1 B.rg.length c1, .slice A2 B.hm.length c2, .slice A3 B.pd.length c3, .slice A4 B.dr.length c4, .int .i64 B.sq, .int .i64 B.bs, .int .i64 B.sf, .int .i64 B.at_, .int .i64 B.df]) B) lo up q ∧ y ≤ 255 ∧ w2.heap.size ≤ aX)
   case use =>
    intro key_af_2_7
    apply mem4_nnviw (P := fun lo' up' v' y q => w2.grownBy q (some g) ∧ Blk q w.heap.size 28 #[.slice A1 B.rg.length c1, .slice A2 B.hm.length c2, .slice A3 B.pd.length c3, .slice A4 B.dr.length c4, .int .i64 B.sq, .int .i64 B.bs, .int .i64 B.sf, .int .i64 B.at_, .int .i64 B.df] ∧ Blk q (w.heap.size + 1) 28 zB_ ∧ Curs q g A n cp bs ∧ InAt (OwnBk lo (.agg #[.slice A1 B.rg.length c1, .slice A2 B.hm.length c2, .slice A3 B.pd.length c3, .slice A4 B.dr.length c4, .int .i64 B.sq, .int .i64 B.bs, .int .i64 B.sf, .int .i64 B.at_, .int .i64 B.df]) B) lo up q ∧ BkO w2.heap.size lo' up' v' q ∧ y ≤ 255)
    case use =>
     intro key_af_2_3
     apply mem4_nw (P := fun aX q => w2.grownBy q (some g) ∧ Blk q w.heap.size 28 #[.slice A1 B.rg.length c1, .slice A2 B.hm.length c2, .slice A3 B.pd.length c3, .slice A4 B.dr.length c4, .int .i64 B.sq, .int .i64 B.bs, .int .i64 B.sf, .int .i64 B.at_, .int .i64 B.df] ∧ Blk q (w.heap.size + 1) 28 zB_ ∧ Blk q aX 28 zB_ ∧ Curs q g A n cp bs ∧ InAt (OwnBk lo (.agg #[.slice A1 B.rg.length c1, .slice A2 B.hm.length c2, .slice A3 B.pd.length c3, .slice A4 B.dr.length c4, .int .i64 B.sq, .int .i64 B.bs, .int .i64 B.sf, .int .i64 B.at_, .int .i64 B.df]) B) lo up q ∧ w2.heap.size ≤ aX)
     case use =>
      intro key_af_7
      apply mem4_iw (P := fun y q => w2.grownBy q (some g) ∧ Blk q w.heap.size 28 #[.slice A1 B.rg.length c1, .slice A2 B.hm.length c2, .slice A3 B.pd.length c3, .slice A4 B.dr.length c4, .int .i64 B.sq, .int .i64 B.bs, .int .i64 B.sf, .int .i64 B.at_, .int .i64 B.df] ∧ Blk q (w.heap.size + 1) 28 zB_ ∧ Curs q g A n cp bs ∧ InAt (OwnBk lo (.agg #[.slice A1 B.rg.length c1, .slice A2 B.hm.length c2, .slice A3 B.pd.length c3, .slice A4 B.dr.length c4, .int .i64 B.sq, .int .i64 B.bs, .int .i64 B.sf, .int .i64 B.at_, .int .i64 B.df]) B) lo up q ∧ y ≤ 255)
      case use =>
       intro key_af_2
       refine tkV_ 0 (v := ?v1001) ?hy1001 ?hS1001 ?hr1001
       case hS1001 => exact kK.g9
       case hy1001 => refine Or.inl ⟨by rfl, ?_⟩; intro w hSw; (try dsimp only at hSw); go_simp; (try with_reducible rfl)
       simp only [Act.put, pT_, pZ_, pS_]
       refine tkV_ 1 (v := ?v1002) ?hy1002 ?hS1002 ?hr1002
       case hS1002 => exact kK.g9
       case hy1002 => refine Or.inl ⟨by rfl, ?_⟩; intro w hSw; (try dsimp only at hSw); go_simp; (try with_reducible rfl)
       simp only [Act.put, pT_, pZ_, pS_]
       refine wpAnyH_ready (rs := [2, 7]) (by kernel_rfl) (by simp) ?_
       refine AllReadyH.cons (o := ?oi1003) ?hi1003 (fun K hK => ?br1003) (AllReadyH.cons (o := ?oi1004) ?hi1004 (fun K hK => ?br1004) AllReadyH.nil)
       case hi1003 => (conv => lhs; simp only [gT_, gZ_, gS_]); try exact rfl
       case hi1004 => (conv => lhs; simp only [gT_, gZ_, gS_]); try exact rfl
       case br1003 =>
        go_simp
        go_at_call 50
        refine (l1Below_any g A n cp bs hn 256 (by omega) _ pC).mono ?_
        rintro e q ⟨y, rfl, _, hy, hcG, hg⟩
        have bw2 := bw.trans hg
        have kK2 := blk_g kK hg (by omega)
        have kR2 := blk_g kR hg (by omega)
        have pC2 : Curs q g A n cp bs := hcG
        have pI2 : InAt (OwnBk lo (.agg #[.slice A1 B.rg.length c1, .slice A2 B.hm.length c2, .slice A3 B.pd.length c3, .slice A4 B.dr.length c4, .int .i64 B.sq, .int .i64 B.bs, .int .i64 B.sf, .int .i64 B.at_, .int .i64 B.df]) B) lo up q := inAt_g pI hg hgl
        have hyb : y ≤ 255 := by have := hy (by omega); omega
        refine hK.out _ _ (by exact kK2.g9) (fun _ => ?_)
        clear hK K
        try simp only [Act.put, pT_, pZ_, pS_]
        exact key_af_2 y q ⟨bw2, kK2, kR2, pC2, pI2, hyb⟩
       case br1004 =>
        go_simp
        refine hK.out _ _ (by exact (kK.alloc (.cells zB_ 28)).g9) (fun _ => ?_)
        clear hK K
        try simp only [Act.put, pT_, pZ_, pS_]
        refine foldH ?_
        intro q hq
        obtain ⟨aX, ha⟩ : ∃ g, r.heap.size = g := ⟨_, rfl⟩
        rw [ha]
        have bw2 : w2.grownBy q (some g) := by rw [hq]; exact gb_below bw (belA (bel0 r) (.cells zB_ 28))
        have kK2 : Blk q _ _ _ := hq ▸ kK.alloc (.cells zB_ 28)
        have kR2 : Blk q _ _ _ := hq ▸ kR.alloc (.cells zB_ 28)
        have pC2 : Curs q g A n cp bs := by rw [hq]; exact pC.alloc _
        have pI2 : InAt (OwnBk lo (.agg #[.slice A1 B.rg.length c1, .slice A2 B.hm.length c2, .slice A3 B.pd.length c3, .slice A4 B.dr.length c4, .int .i64 B.sq, .int .i64 B.bs, .int .i64 B.sf, .int .i64 B.at_, .int .i64 B.df]) B) lo up q := by rw [hq]; exact pI.next (belA (bel0 _) _)
        have kX2 : Blk q aX 28 zB_ := by rw [hq, ← ha]; exact Blk.new' _ _ _ _ rfl
        have laX : w2.heap.size ≤ aX := by rw [← ha]; exact bw.size
        exact key_af_7 aX q ⟨bw2, kK2, kR2, kX2, pC2, pI2, laX⟩
      case key =>
       rintro y r ⟨bw, kK, kR, pC, pI, hyb⟩
       try dsimp only
       refine wpAnyH_ready (rs := [3, 7]) (by kernel_rfl) (by simp) ?_
       refine AllReadyH.cons (o := ?oi1005) ?hi1005 (fun K hK => ?br1005) (AllReadyH.cons (o := ?oi1006) ?hi1006 (fun K hK => ?br1006) AllReadyH.nil)
       case hi1005 => (conv => lhs; simp only [gT_, gZ_, gS_]); try exact rfl
       case hi1006 => (conv => lhs; simp only [gT_, gZ_, gS_]); try exact rfl
       case br1005 =>
        go_simp
        go_at_call 21
        refine (fall_spec _ B HSz.out y (by omega) (show fallP B y = ((fallP B y).1, (fallP B y).2) from rfl) _ pI.is.isBk).mono ?_
        rintro e q ⟨v', lo', up', rfl, hlo', hin', hb⟩
        have bw2 := gb_below bw hb
        have kK2 := kK.below hb kK.lt
        have kR2 := kR.below hb kR.lt
        have pC2 : Curs q g A n cp bs := pC.below hb
        have pI2 : InAt (OwnBk lo (.agg #[.slice A1 B.rg.length c1, .slice A2 B.hm.length c2, .slice A3 B.pd.length c3, .slice A4 B.dr.length c4, .int .i64 B.sq, .int .i64 B.bs, .int .i64 B.sf, .int .i64 B.at_, .int .i64 B.df]) B) lo up q := pI.next hb
        have pJ2 : BkO w2.heap.size lo' up' v' q := ⟨by have := bw.size; omega, _, hin', (fall_ok Hok.out (show fallP B y = ((fallP B y).1, (fallP B y).2) from rfl)).1, fallP_small Hok.out Hsm.out (show fallP B y = ((fallP B y).1, (fallP B y).2) from rfl)⟩
        refine hK.out _ _ (by exact kK2.g9) (fun _ => ?_)
        clear hK K
        try simp only [Act.put, pT_, pZ_, pS_]
        refine tkV_ 4 (v := ?v1007) ?hy1007 ?hS1007 ?hr1007
        case hS1007 => exact kK2.g9
        case hy1007 => refine Or.inl ⟨by rfl, ?_⟩; intro w hSw; (try dsimp only at hSw); go_simp; (try with_reducible rfl)
        simp only [Act.put, pT_, pZ_, pS_]
        refine tkV_ 5 (v := ?v1008) ?hy1008 ?hS1008 ?hr1008
        case hS1008 => exact kK2.g9
        case hy1008 => refine Or.inl ⟨by rfl, ?_⟩; intro w hSw; (try dsimp only at hSw); go_simp; (try with_reducible rfl)
        simp only [Act.put, pT_, pZ_, pS_]
        refine tkV_ 6 (v := ?v1009) ?hy1009 ?hS1009 ?hr1009
        case hS1009 => exact kK2.g9
        case hy1009 => refine Or.inl ⟨by rfl, ?_⟩; intro w hSw; (try dsimp only at hSw); go_simp; (try with_reducible rfl)
        simp only [Act.put, pT_, pZ_, pS_]
        exact key_af_2_3 lo' up' v' y q ⟨bw2, kK2, kR2, pC2, pI2, pJ2, hyb⟩
       case br1006 =>
        go_simp
        refine hK.out _ _ (by exact (kK.alloc (.cells zB_ 28)).g9) (fun _ => ?_)
        clear hK K
        try simp only [Act.put, pT_, pZ_, pS_]
        refine foldH ?_
        intro q hq
        obtain ⟨aX, ha⟩ : ∃ g, r.heap.size = g := ⟨_, rfl⟩
        rw [ha]
        have bw2 : w2.grownBy q (some g) := by rw [hq]; exact gb_below bw (belA (bel0 r) (.cells zB_ 28))
        have kK2 : Blk q _ _ _ := hq ▸ kK.alloc (.cells zB_ 28)
        have kR2 : Blk q _ _ _ := hq ▸ kR.alloc (.cells zB_ 28)
        have pC2 : Curs q g A n cp bs := by rw [hq]; exact pC.alloc _
        have pI2 : InAt (OwnBk lo (.agg #[.slice A1 B.rg.length c1, .slice A2 B.hm.length c2, .slice A3 B.pd.length c3, .slice A4 B.dr.length c4, .int .i64 B.sq, .int .i64 B.bs, .int .i64 B.sf, .int .i64 B.at_, .int .i64 B.df]) B) lo up q := by rw [hq]; exact pI.next (belA (bel0 _) _)
        have kX2 : Blk q aX 28 zB_ := by rw [hq, ← ha]; exact Blk.new' _ _ _ _ rfl
        have laX : w2.heap.size ≤ aX := by rw [← ha]; exact bw.size
        exact key_af_2_7 aX y q ⟨bw2, kK2, kR2, kX2, pC2, pI2, hyb, laX⟩
     case key =>
      rintro aX r ⟨bw, kK, kR, kX, pC, pI, laX⟩
      try dsimp only
      refine wpAnyH_ready (rs := [2]) (by kernel_rfl) (by simp) ?_
      refine AllReadyH.cons (o := ?oi1010) ?hi1010 (fun K hK => ?br1010) AllReadyH.nil
      case hi1010 => (conv => lhs; simp only [gT_, gZ_, gS_]); try exact rfl
      case br1010 =>
       go_simp
       go_at_call 50
       refine (l1Below_any g A n cp bs hn 256 (by omega) _ pC).mono ?_
       rintro e q ⟨y, rfl, _, hy, hcG, hg⟩
       have bw2 := bw.trans hg
       have kK2 := blk_g kK hg (by omega)
       have kR2 := blk_g kR hg (by omega)
       have kX2 := blk_g kX hg (by have := laX; omega)
       have pC2 : Curs q g A n cp bs := hcG
       have pI2 : InAt (OwnBk lo (.agg #[.slice A1 B.rg.length c1, .slice A2 B.hm.length c2, .slice A3 B.pd.length c3, .slice A4 B.dr.length c4, .int .i64 B.sq, .int .i64 B.bs, .int .i64 B.sf, .int .i64 B.at_, .int .i64 B.df]) B) lo up q := inAt_g pI hg hgl
       have hyb : y ≤ 255 := by have := hy (by omega); omega
       refine hK.out _ _ (by exact kK2.g9) (fun _ => ?_)
       clear hK K
       try simp only [Act.put, pT_, pZ_, pS_]
       exact key_af_2_7 aX y q ⟨bw2, kK2, kR2, kX2, pC2, pI2, hyb, laX⟩
    case key =>
     rintro lo' up' v' y r ⟨bw, kK, kR, pC, pI, pJ, hyb⟩
     try dsimp only
     refine wpAnyH_ready (rs := [7]) (by kernel_rfl) (by simp) ?_
     refine AllReadyH.cons (o := ?oi1011) ?hi1011 (fun K hK => ?br1011) AllReadyH.nil
     case hi1011 => (conv => lhs; simp only [gT_, gZ_, gS_]); try exact rfl
     case br1011 =>
      go_simp
      refine hK.out _ _ (by exact (kK.alloc (.cells zB_ 28)).g9) (fun _ => ?_)
      clear hK K
      try simp only [Act.put, pT_, pZ_, pS_]
      refine foldH ?_
      intro q hq
      obtain ⟨aX, ha⟩ : ∃ g, r.heap.size = g := ⟨_, rfl⟩
      rw [ha]
      have bw2 : w2.grownBy q (some g) := by rw [hq]; exact gb_below bw (belA (bel0 r) (.cells zB_ 28))
      have kK2 : Blk q _ _ _ := hq ▸ kK.alloc (.cells zB_ 28)
      have kR2 : Blk q _ _ _ := hq ▸ kR.alloc (.cells zB_ 28)
      have pC2 : Curs q g A n cp bs := by rw [hq]; exact pC.alloc _
      have pI2 : InAt (OwnBk lo (.agg #[.slice A1 B.rg.length c1, .slice A2 B.hm.length c2, .slice A3 B.pd.length c3, .slice A4 B.dr.length c4, .int .i64 B.sq, .int .i64 B.bs, .int .i64 B.sf, .int .i64 B.at_, .int .i64 B.df]) B) lo up q := by rw [hq]; exact pI.next (belA (bel0 _) _)
      have pJ2 : BkO w2.heap.size lo' up' v' q := by rw [hq]; exact pJ.next (belA (bel0 _) _)
      have kX2 : Blk q aX 28 zB_ := by rw [hq, ← ha]; exact Blk.new' _ _ _ _ rfl
      have laX : w2.heap.size ≤ aX := by rw [← ha]; exact bw.size
      have sep : aX < lo' ∨ up' ≤ aX := .inr (by have := pJ.up; omega)
      exact key_af_2_3_7 aX lo' up' v' y q ⟨bw2, kK2, kR2, kX2, pC2, pI2, pJ2, hyb, laX, sep⟩
   case key =>
    rintro aX y r ⟨bw, kK, kR, kX, pC, pI, hyb, laX⟩
    try dsimp only
    refine wpAnyH_ready (rs := [3]) (by kernel_rfl) (by simp) ?_
    refine AllReadyH.cons (o := ?oi1012) ?hi1012 (fun K hK => ?br1012) AllReadyH.nil
    case hi1012 => (conv => lhs; simp only [gT_, gZ_, gS_]); try exact rfl
    case br1012 =>
     go_simp
     go_at_call 21
     refine (fall_spec _ B HSz.out y (by omega) (show fallP B y = ((fallP B y).1, (fallP B y).2) from rfl) _ pI.is.isBk).mono ?_
     rintro e q ⟨v', lo', up', rfl, hlo', hin', hb⟩
     have bw2 := gb_below bw hb
     have kK2 := kK.below hb kK.lt
     have kR2 := kR.below hb kR.lt
     have kX2 := kX.below hb kX.lt
     have pC2 : Curs q g A n cp bs := pC.below hb
     have pI2 : InAt (OwnBk lo (.agg #[.slice A1 B.rg.length c1, .slice A2 B.hm.length c2, .slice A3 B.pd.length c3, .slice A4 B.dr.length c4, .int .i64 B.sq, .int .i64 B.bs, .int .i64 B.sf, .int .i64 B.at_, .int .i64 B.df]) B) lo up q := pI.next hb
     have pJ2 : BkO w2.heap.size lo' up' v' q := ⟨by have := bw.size; omega, _, hin', (fall_ok Hok.out (show fallP B y = ((fallP B y).1, (fallP B y).2) from rfl)).1, fallP_small Hok.out Hsm.out (show fallP B y = ((fallP B y).1, (fallP B y).2) from rfl)⟩
     have sep : aX < lo' ∨ up' ≤ aX := .inl (by have := kX.lt; omega)
     refine hK.out _ _ (by exact kK2.g9) (fun _ => ?_)
     clear hK K
     try simp only [Act.put, pT_, pZ_, pS_]
     refine tkV_ 4 (v := ?v1013) ?hy1013 ?hS1013 ?hr1013
     case hS1013 => exact kK2.g9
     case hy1013 => refine Or.inl ⟨by rfl, ?_⟩; intro w hSw; (try dsimp only at hSw); go_simp; (try with_reducible rfl)
     simp only [Act.put, pT_, pZ_, pS_]
     refine tkV_ 5 (v := ?v1014) ?hy1014 ?hS1014 ?hr1014
     case hS1014 => exact kK2.g9
     case hy1014 => refine Or.inl ⟨by rfl, ?_⟩; intro w hSw; (try dsimp only at hSw); go_simp; (try with_reducible rfl)
     simp only [Act.put, pT_, pZ_, pS_]
     refine tkV_ 6 (v := ?v1015) ?hy1015 ?hS1015 ?hr1015
     case hS1015 => exact kK2.g9
     case hy1015 => refine Or.inl ⟨by rfl, ?_⟩; intro w hSw; (try dsimp only at hSw); go_simp; (try with_reducible rfl)
     simp only [Act.put, pT_, pZ_, pS_]
     exact key_af_2_3_7 aX lo' up' v' y q ⟨bw2, kK2, kR2, kX2, pC2, pI2, pJ2, hyb, laX, sep⟩
  case key =>
   rintro aX lo' up' v' y r ⟨bw, kK, kR, kX, pC, pI, pJ, hyb, laX, sep⟩
   try dsimp only
   refine wpAnyH_ready (rs := [8]) (by kernel_rfl) (by simp) ?_
   refine AllReadyH.cons (o := ?oi1016) ?hi1016 (fun K hK => ?br1016) AllReadyH.nil
   case hi1016 => (conv => lhs; simp only [gT_, gZ_, gS_]); try exact rfl
   case br1016 =>
    obtain ⟨hlo', B', hin', hok', hsm'⟩ := pJ
    obtain ⟨F1, f1, F2, f2, F3, f3, F4, f4, rfl, _⟩ := hin'.is.isBk
    have x_0 := kX.get (x := .slice none 0 0) 0 rfl
    have x_1 := kX.get (x := .slice none 0 0) 1 rfl
    have x_2 := kX.get (x := .slice none 0 0) 2 rfl
    have x_3 := kX.get (x := .slice none 0 0) 3 rfl
    have x_4 := kX.get (x := .int .i64 0) 4 rfl
    have x_5 := kX.get (x := .int .i64 0) 5 rfl
    have x_6 := kX.get (x := .int .i64 0) 6 rfl
    have x_7 := kX.get (x := .int .i64 0) 7 rfl
    have x_8 := kX.get (x := .int .i64 0) 8 rfl
    obtain ⟨f_0, f_1, f_2, f_3, f_4, f_5, f_6, f_7, f_8⟩ := kX.f9
    have lE := kX.lt
    obtain ⟨w9, h9, hX9, s9, hb9, ho9⟩ := put9n r aX 28 (.slice F1 B'.rg.length f1) (.slice F2 B'.hm.length f2) (.slice F3 B'.pd.length f3) (.slice F4 B'.dr.length f4) (.int .i64 B'.sq) (.int .i64 B'.bs) (.int .i64 B'.sf) (.int .i64 B'.at_) (.int .i64 B'.df) (.slice none 0 0) (.slice none 0 0) (.slice none 0 0) (.slice none 0 0) (.int .i64 0) (.int .i64 0) (.int .i64 0) (.int .i64 0) (.int .i64 0) kX
    have K9 := kK.eqN (ho9 _ (by have := laX; omega))
    have R9 := kR.eqN (ho9 _ (by have := laX; omega))
    have J9 : BkO w.heap.size lo' up' _ w9 := (show BkO w.heap.size lo' up' _ r from ⟨by omega, B', hin', hok', hsm'⟩).same (by omega) (fun j h1 h2 => ho9 j (by rcases sep with h | h <;> omega))
    have C9 : Curs w9 g A n cp bs := pC.bel (hb9 (g + 1) _ (by have := laX; omega) (Below.refl _ _)) (by omega)
    have G9 : w.grownBy w9 (some g) := gb_bel0 (G2.trans bw) (hb9 w.heap.size _ (by have := laX; omega) (Below.refl _ _))
    have zr := bw.size
    go_simp
    refine hK.out _ _ (by first | exact K9.g9 | (rw [h9]; exact K9.g9)) (fun _ => ?_)
    clear hK K
    try simp only [Act.put, pT_, pZ_, pS_]
    try rw [h9]
    clear h9 hb9 ho9 lE kX kR pC pI bw hin' x_0 x_1 x_2 x_3 x_4 x_5 x_6 x_7 x_8 f_0 f_1 f_2 f_3 f_4 f_5 f_6 f_7 f_8
    refine tkV_ 9 (v := ?v1017) ?hy1017 ?hS1017 ?hr1017
    case hS1017 => exact K9.g9
    case hy1017 => refine Or.inl ⟨by rfl, ?_⟩; intro w hSw; (try dsimp only at hSw); go_simp; (try with_reducible rfl)
    simp only [Act.put, pT_, pZ_, pS_]
    refine wpAnyH_done (by kernel_rfl) ?_ _
    obtain ⟨y0, y1, y2, y3, y4, y5, y6, y7, y8⟩ := hX9.g9
    have l1 := hX9.lt
    obtain ⟨q0, q1, q2, q3, q4, q5, q6, q7, q8⟩ := R9.g9
    obtain ⟨p0, p1, p2, p3, p4, p5, p6, p7, p8⟩ := R9.f9
    have l2 := R9.lt
    go_wp2
    obtain ⟨w10, h10, hB10, s10, hb10, ho10⟩ := put9n w9 (w.heap.size + 1) 28 (.slice F1 B'.rg.length f1) (.slice F2 B'.hm.length f2) (.slice F3 B'.pd.length f3) (.slice F4 B'.dr.length f4) (.int .i64 B'.sq) (.int .i64 B'.bs) (.int .i64 B'.sf) (.int .i64 B'.at_) (.int .i64 B'.df) (.slice none 0 0) (.slice none 0 0) (.slice none 0 0) (.slice none 0 0) (.int .i64 0) (.int .i64 0) (.int .i64 0) (.int .i64 0) (.int .i64 0) R9
    rw [h10]
    clear h10 l1 l2 q0 q1 q2 q3 q4 q5 q6 q7 q8 p0 p1 p2 p3 p4 p5 p6 p7 p8 y0 y1 y2 y3 y4 y5 y6 y7 y8
    obtain ⟨r0, r1, r2, r3, r4, r5, r6, r7, r8⟩ := hB10.g9
    refine bodyPost_ret (v := .agg #[.slice F1 B'.rg.length f1, .slice F2 B'.hm.length f2, .slice F3 B'.pd.length f3, .slice F4 B'.dr.length f4, .int .i64 B'.sq, .int .i64 B'.bs, .int .i64 B'.sf, .int .i64 B'.at_, .int .i64 B'.df]) (by simp [results, Tryz.results64, go_sem, r0, r1, r2, r3, r4, r5, r6, r7, r8]) rfl ⟨_, lo', up', rfl, J9.same (by omega) (fun j h1 h2 => ho10 j (by omega)), C9.bel (hb10 (g + 1) _ (by omega) (Below.refl _ _)) (by omega), gb_bel0 G9 (hb10 w.heap.size _ (by omega) (Below.refl _ _))⟩
 have d2 : (x == 2) = false := beq_eq_false_iff_ne.2 e2
 obtain ⟨k0, k1, k2, k3, k4, k5, k6, k7, k8⟩ := K2.g9
 have lk := K2.lt
 go_wp2_with fail
 clear lk
 refine wp_region_held_drew (S := fun w' => w'.cell? ⟨w.heap.size, 0, none⟩ = some (.slice A1 B.rg.length c1) ∧ w'.cell? ⟨w.heap.size, 1, none⟩ = some (.slice A2 B.hm.length c2) ∧ w'.cell? ⟨w.heap.size, 2, none⟩ = some (.slice A3 B.pd.length c3) ∧ w'.cell? ⟨w.heap.size, 3, none⟩ = some (.slice A4 B.dr.length c4) ∧ w'.cell? ⟨w.heap.size, 4, none⟩ = some (.int .i64 B.sq) ∧ w'.cell? ⟨w.heap.size, 5, none⟩ = some (.int .i64 B.bs) ∧ w'.cell? ⟨w.heap.size, 6, none⟩ = some (.int .i64 B.sf) ∧ w'.cell? ⟨w.heap.size, 7, none⟩ = some (.int .i64 B.at_) ∧ w'.cell? ⟨w.heap.size, 8, none⟩ = some (.int .i64 B.df)) (by kernel_rfl) (by exact K2.g9) (fun hHeld => ?_)
 clear hHeld
 refine foldH ?_
 intro r hr0
 have bw : w2.grownBy r (some g) := by rw [hr0]; exact gb_below (grown_refl _ _) (bel0 w2).drew
 have kK : Blk r w.heap.size 28 #[.slice A1 B.rg.length c1, .slice A2 B.hm.length c2, .slice A3 B.pd.length c3, .slice A4 B.dr.length c4, .int .i64 B.sq, .int .i64 B.bs, .int .i64 B.sf, .int .i64 B.at_, .int .i64 B.df] := by rw [hr0]; exact K2.drew
 have kR : Blk r (w.heap.size + 1) 28 zB_ := by rw [hr0]; exact R2.drew
 have pC : Curs r g A n cp bs := by rw [hr0]; exact C2.drew'
 have pI : InAt (OwnBk lo (.agg #[.slice A1 B.rg.length c1, .slice A2 B.hm.length c2, .slice A3 B.pd.length c3, .slice A4 B.dr.length c4, .int .i64 B.sq, .int .i64 B.bs, .int .i64 B.sf, .int .i64 B.at_, .int .i64 B.df]) B) lo up r := by rw [hr0]; exact I2.next (bel0 w2).drew
 clear hr0
 apply mem4_niinbnvw (P := fun aX i k lo' s up' v' q => w2.grownBy q (some g) ∧ Blk q w.heap.size 28 #[.slice A1 B.rg.length c1, .slice A2 B.hm.length c2, .slice A3 B.pd.length c3, .slice A4 B.dr.length c4, .int .i64 B.sq, .int .i64 B.bs, .int .i64 B.sf, .int .i64 B.at_, .int .i64 B.df] ∧ Blk q (w.heap.size + 1) 28 zB_ ∧ Blk q aX 28 zB_ ∧ Curs q g A n cp bs ∧ InAt (OwnBk lo (.agg #[.slice A1 B.rg.length c1, .slice A2 B.hm.length c2, .slice A3 B.pd.length c3, .slice A4 B.dr.length c4, .int .i64 B.sq, .int .i64 B.bs, .int .i64 B.sf, .int .i64 B.at_, .int .i64 B.df]) B) lo up q ∧ BkO w2.heap.size lo' up' v' q ∧ s.size ≤ 25 ∧ w2.heap.size ≤ aX ∧ (aX < lo' ∨ up' ≤ aX))
 case use =>
  intro key_ad_2_3_7
  apply mem4_niibw (P := fun aX i k s q => w2.grownBy q (some g) ∧ Blk q w.heap.size 28 #[.slice A1 B.rg.length c1, .slice A2 B.hm.length c2, .slice A3 B.pd.length c3, .slice A4 B.dr.length c4, .int .i64 B.sq, .int .i64 B.bs, .int .i64 B.sf, .int .i64 B.at_, .int .i64 B.df] ∧ Blk q (w.heap.size + 1) 28 zB_ ∧ Blk q aX 28 zB_ ∧ Curs q g A n cp bs ∧ InAt (OwnBk lo (.agg #[.slice A1 B.rg.length c1, .slice A2 B.hm.length c2, .slice A3 B.pd.length c3, .slice A4 B.dr.length c4, .int .i64 B.sq, .int .i64 B.bs, .int .i64 B.sf, .int .i64 B.at_, .int .i64 B.df]) B) lo up q ∧ s.size ≤ 25 ∧ w2.heap.size ≤ aX)
  case use =>
   intro key_ad_2_7
   apply mem4_iinbnvw (P := fun i k lo' s up' v' q => w2.grownBy q (some g) ∧ Blk q w.heap.size 28 #[.slice A1 B.rg.length c1, .slice A2 B.hm.length c2, .slice A3 B.pd.length c3, .slice A4 B.dr.length c4, .int .i64 B.sq, .int .i64 B.bs, .int .i64 B.sf, .int .i64 B.at_, .int .i64 B.df] ∧ Blk q (w.heap.size + 1) 28 zB_ ∧ Curs q g A n cp bs ∧ InAt (OwnBk lo (.agg #[.slice A1 B.rg.length c1, .slice A2 B.hm.length c2, .slice A3 B.pd.length c3, .slice A4 B.dr.length c4, .int .i64 B.sq, .int .i64 B.bs, .int .i64 B.sf, .int .i64 B.at_, .int .i64 B.df]) B) lo up q ∧ BkO w2.heap.size lo' up' v' q ∧ s.size ≤ 25)
   case use =>
    intro key_ad_2_3
    apply mem4_nw (P := fun aX q => w2.grownBy q (some g) ∧ Blk q w.heap.size 28 #[.slice A1 B.rg.length c1, .slice A2 B.hm.length c2, .slice A3 B.pd.length c3, .slice A4 B.dr.length c4, .int .i64 B.sq, .int .i64 B.bs, .int .i64 B.sf, .int .i64 B.at_, .int .i64 B.df] ∧ Blk q (w.heap.size + 1) 28 zB_ ∧ Blk q aX 28 zB_ ∧ Curs q g A n cp bs ∧ InAt (OwnBk lo (.agg #[.slice A1 B.rg.length c1, .slice A2 B.hm.length c2, .slice A3 B.pd.length c3, .slice A4 B.dr.length c4, .int .i64 B.sq, .int .i64 B.bs, .int .i64 B.sf, .int .i64 B.at_, .int .i64 B.df]) B) lo up q ∧ w2.heap.size ≤ aX)
    case use =>
     intro key_ad_7
     apply mem4_iibw (P := fun i k s q => w2.grownBy q (some g) ∧ Blk q w.heap.size 28 #[.slice A1 B.rg.length c1, .slice A2 B.hm.length c2, .slice A3 B.pd.length c3, .slice A4 B.dr.length c4, .int .i64 B.sq, .int .i64 B.bs, .int .i64 B.sf, .int .i64 B.at_, .int .i64 B.df] ∧ Blk q (w.heap.size + 1) 28 zB_ ∧ Curs q g A n cp bs ∧ InAt (OwnBk lo (.agg #[.slice A1 B.rg.length c1, .slice A2 B.hm.length c2, .slice A3 B.pd.length c3, .slice A4 B.dr.length c4, .int .i64 B.sq, .int .i64 B.bs, .int .i64 B.sf, .int .i64 B.at_, .int .i64 B.df]) B) lo up q ∧ s.size ≤ 25)
     case use =>
      intro key_ad_2
      refine tkV_ 0 (v := ?v2001) ?hy2001 ?hS2001 ?hr2001
      case hS2001 => exact kK.g9
      case hy2001 => refine Or.inl ⟨by rfl, ?_⟩; intro w hSw; (try dsimp only at hSw); go_simp; (try with_reducible rfl)
      simp only [Act.put, pT_, pZ_, pS_]
      refine tkV_ 1 (v := ?v2002) ?hy2002 ?hS2002 ?hr2002
      case hS2002 => exact kK.g9
      case hy2002 => refine Or.inl ⟨by rfl, ?_⟩; intro w hSw; (try dsimp only at hSw); go_simp; (try with_reducible rfl)
      simp only [Act.put, pT_, pZ_, pS_]
      refine wpAnyH_ready (rs := [2, 7]) (by kernel_rfl) (by simp) ?_
      refine AllReadyH.cons (o := ?oi2003) ?hi2003 (fun K hK => ?br2003) (AllReadyH.cons (o := ?oi2004) ?hi2004 (fun K hK => ?br2004) AllReadyH.nil)
      case hi2003 => (conv => lhs; simp only [gT_, gZ_, gS_]); try exact rfl
      case hi2004 => (conv => lhs; simp only [gT_, gZ_, gS_]); try exact rfl
      case br2003 =>
       go_simp
       go_at_call 24
       refine (l25Op_any g A n cp bs hn _ pC).mono ?_
       rintro e q ⟨k, s, i, rfl, hs, hcG, hg⟩
       have bw2 := bw.trans hg
       have kK2 := blk_g kK hg (by omega)
       have kR2 := blk_g kR hg (by omega)
       have pC2 : Curs q g A n cp bs := hcG
       have pI2 : InAt (OwnBk lo (.agg #[.slice A1 B.rg.length c1, .slice A2 B.hm.length c2, .slice A3 B.pd.length c3, .slice A4 B.dr.length c4, .int .i64 B.sq, .int .i64 B.bs, .int .i64 B.sf, .int .i64 B.at_, .int .i64 B.df]) B) lo up q := inAt_g pI hg hgl
       have hsb : s.size ≤ 25 := hs
       refine hK.out _ _ (by exact kK2.g9) (fun _ => ?_)
       clear hK K
       try simp only [Act.put, pT_, pZ_, pS_]
       exact key_ad_2 i k s q ⟨bw2, kK2, kR2, pC2, pI2, hsb⟩
      case br2004 =>
       go_simp
       refine hK.out _ _ (by exact (kK.alloc (.cells zB_ 28)).g9) (fun _ => ?_)
       clear hK K
       try simp only [Act.put, pT_, pZ_, pS_]
       refine foldH ?_
       intro q hq
       obtain ⟨aX, ha⟩ : ∃ g, r.heap.size = g := ⟨_, rfl⟩
       rw [ha]
       have bw2 : w2.grownBy q (some g) := by rw [hq]; exact gb_below bw (belA (bel0 r) (.cells zB_ 28))
       have kK2 : Blk q _ _ _ := hq ▸ kK.alloc (.cells zB_ 28)
       have kR2 : Blk q _ _ _ := hq ▸ kR.alloc (.cells zB_ 28)
       have pC2 : Curs q g A n cp bs := by rw [hq]; exact pC.alloc _
       have pI2 : InAt (OwnBk lo (.agg #[.slice A1 B.rg.length c1, .slice A2 B.hm.length c2, .slice A3 B.pd.length c3, .slice A4 B.dr.length c4, .int .i64 B.sq, .int .i64 B.bs, .int .i64 B.sf, .int .i64 B.at_, .int .i64 B.df]) B) lo up q := by rw [hq]; exact pI.next (belA (bel0 _) _)
       have kX2 : Blk q aX 28 zB_ := by rw [hq, ← ha]; exact Blk.new' _ _ _ _ rfl
       have laX : w2.heap.size ≤ aX := by rw [← ha]; exact bw.size
       exact key_ad_7 aX q ⟨bw2, kK2, kR2, kX2, pC2, pI2, laX⟩
     case key =>
      rintro i k s r ⟨bw, kK, kR, pC, pI, hsb⟩
      try dsimp only
      refine wpAnyH_ready (rs := [3, 7]) (by kernel_rfl) (by simp) ?_
      refine AllReadyH.cons (o := ?oi2005) ?hi2005 (fun K hK => ?br2005) (AllReadyH.cons (o := ?oi2006) ?hi2006 (fun K hK => ?br2006) AllReadyH.nil)
      case hi2005 => (conv => lhs; simp only [gT_, gZ_, gS_]); try exact rfl
      case hi2006 => (conv => lhs; simp only [gT_, gZ_, gS_]); try exact rfl
      case br2005 =>
       go_simp
       go_at_call 17
       refine (bookDo_spec _ B HSz.out k s i (by omega) (show doBk B k s i = ((doBk B k s i).1, (doBk B k s i).2) from rfl) _ pI.is.isBk).mono ?_
       rintro e q ⟨v', lo', up', rfl, hlo', hin', hb⟩
       have bw2 := gb_below bw hb
       have kK2 := kK.below hb kK.lt
       have kR2 := kR.below hb kR.lt
       have pC2 : Curs q g A n cp bs := pC.below hb
       have pI2 : InAt (OwnBk lo (.agg #[.slice A1 B.rg.length c1, .slice A2 B.hm.length c2, .slice A3 B.pd.length c3, .slice A4 B.dr.length c4, .int .i64 B.sq, .int .i64 B.bs, .int .i64 B.sf, .int .i64 B.at_, .int .i64 B.df]) B) lo up q := pI.next hb
       have pJ2 : BkO w2.heap.size lo' up' v' q := ⟨by have := bw.size; omega, _, hin', doBk_ok Hok.out (show doBk B k s i = ((doBk B k s i).1, (doBk B k s i).2) from rfl), doBk_small Hok.out Hsm.out (show doBk B k s i = ((doBk B k s i).1, (doBk B k s i).2) from rfl)⟩
       refine hK.out _ _ (by exact kK2.g9) (fun _ => ?_)
       clear hK K
       try simp only [Act.put, pT_, pZ_, pS_]
       refine tkV_ 4 (v := ?v2007) ?hy2007 ?hS2007 ?hr2007
       case hS2007 => exact kK2.g9
       case hy2007 => refine Or.inl ⟨by rfl, ?_⟩; intro w hSw; (try dsimp only at hSw); go_simp; (try with_reducible rfl)
       simp only [Act.put, pT_, pZ_, pS_]
       refine tkV_ 5 (v := ?v2008) ?hy2008 ?hS2008 ?hr2008
       case hS2008 => exact kK2.g9
       case hy2008 => refine Or.inl ⟨by rfl, ?_⟩; intro w hSw; (try dsimp only at hSw); go_simp; (try with_reducible rfl)
       simp only [Act.put, pT_, pZ_, pS_]
       refine tkV_ 6 (v := ?v2009) ?hy2009 ?hS2009 ?hr2009
       case hS2009 => exact kK2.g9
       case hy2009 => refine Or.inl ⟨by rfl, ?_⟩; intro w hSw; (try dsimp only at hSw); go_simp; (try with_reducible rfl)
       simp only [Act.put, pT_, pZ_, pS_]
       exact key_ad_2_3 i k lo' s up' v' q ⟨bw2, kK2, kR2, pC2, pI2, pJ2, hsb⟩
      case br2006 =>
       go_simp
       refine hK.out _ _ (by exact (kK.alloc (.cells zB_ 28)).g9) (fun _ => ?_)
       clear hK K
       try simp only [Act.put, pT_, pZ_, pS_]
       refine foldH ?_
       intro q hq
       obtain ⟨aX, ha⟩ : ∃ g, r.heap.size = g := ⟨_, rfl⟩
       rw [ha]
       have bw2 : w2.grownBy q (some g) := by rw [hq]; exact gb_below bw (belA (bel0 r) (.cells zB_ 28))
       have kK2 : Blk q _ _ _ := hq ▸ kK.alloc (.cells zB_ 28)
       have kR2 : Blk q _ _ _ := hq ▸ kR.alloc (.cells zB_ 28)
       have pC2 : Curs q g A n cp bs := by rw [hq]; exact pC.alloc _
       have pI2 : InAt (OwnBk lo (.agg #[.slice A1 B.rg.length c1, .slice A2 B.hm.length c2, .slice A3 B.pd.length c3, .slice A4 B.dr.length c4, .int .i64 B.sq, .int .i64 B.bs, .int .i64 B.sf, .int .i64 B.at_, .int .i64 B.df]) B) lo up q := by rw [hq]; exact pI.next (belA (bel0 _) _)
       have kX2 : Blk q aX 28 zB_ := by rw [hq, ← ha]; exact Blk.new' _ _ _ _ rfl
       have laX : w2.heap.size ≤ aX := by rw [← ha]; exact bw.size
       exact key_ad_2_7 aX i k s q ⟨bw2, kK2, kR2, kX2, pC2, pI2, hsb, laX⟩
    case key =>
     rintro aX r ⟨bw, kK, kR, kX, pC, pI, laX⟩
     try dsimp only
     refine wpAnyH_ready (rs := [2]) (by kernel_rfl) (by simp) ?_
     refine AllReadyH.cons (o := ?oi2010) ?hi2010 (fun K hK => ?br2010) AllReadyH.nil
     case hi2010 => (conv => lhs; simp only [gT_, gZ_, gS_]); try exact rfl
     case br2010 =>
      go_simp
      go_at_call 24
      refine (l25Op_any g A n cp bs hn _ pC).mono ?_
      rintro e q ⟨k, s, i, rfl, hs, hcG, hg⟩
      have bw2 := bw.trans hg
      have kK2 := blk_g kK hg (by omega)
      have kR2 := blk_g kR hg (by omega)
      have kX2 := blk_g kX hg (by have := laX; omega)
      have pC2 : Curs q g A n cp bs := hcG
      have pI2 : InAt (OwnBk lo (.agg #[.slice A1 B.rg.length c1, .slice A2 B.hm.length c2, .slice A3 B.pd.length c3, .slice A4 B.dr.length c4, .int .i64 B.sq, .int .i64 B.bs, .int .i64 B.sf, .int .i64 B.at_, .int .i64 B.df]) B) lo up q := inAt_g pI hg hgl
      have hsb : s.size ≤ 25 := hs
      refine hK.out _ _ (by exact kK2.g9) (fun _ => ?_)
      clear hK K
      try simp only [Act.put, pT_, pZ_, pS_]
      exact key_ad_2_7 aX i k s q ⟨bw2, kK2, kR2, kX2, pC2, pI2, hsb, laX⟩
   case key =>
    rintro i k lo' s up' v' r ⟨bw, kK, kR, pC, pI, pJ, hsb⟩
    try dsimp only
    refine wpAnyH_ready (rs := [7]) (by kernel_rfl) (by simp) ?_
    refine AllReadyH.cons (o := ?oi2011) ?hi2011 (fun K hK => ?br2011) AllReadyH.nil
    case hi2011 => (conv => lhs; simp only [gT_, gZ_, gS_]); try exact rfl
    case br2011 =>
     go_simp
     refine hK.out _ _ (by exact (kK.alloc (.cells zB_ 28)).g9) (fun _ => ?_)
     clear hK K
     try simp only [Act.put, pT_, pZ_, pS_]
     refine foldH ?_
     intro q hq
     obtain ⟨aX, ha⟩ : ∃ g, r.heap.size = g := ⟨_, rfl⟩
     rw [ha]
     have bw2 : w2.grownBy q (some g) := by rw [hq]; exact gb_below bw (belA (bel0 r) (.cells zB_ 28))
     have kK2 : Blk q _ _ _ := hq ▸ kK.alloc (.cells zB_ 28)
     have kR2 : Blk q _ _ _ := hq ▸ kR.alloc (.cells zB_ 28)
     have pC2 : Curs q g A n cp bs := by rw [hq]; exact pC.alloc _
     have pI2 : InAt (OwnBk lo (.agg #[.slice A1 B.rg.length c1, .slice A2 B.hm.length c2, .slice A3 B.pd.length c3, .slice A4 B.dr.length c4, .int .i64 B.sq, .int .i64 B.bs, .int .i64 B.sf, .int .i64 B.at_, .int .i64 B.df]) B) lo up q := by rw [hq]; exact pI.next (belA (bel0 _) _)
     have pJ2 : BkO w2.heap.size lo' up' v' q := by rw [hq]; exact pJ.next (belA (bel0 _) _)
     have kX2 : Blk q aX 28 zB_ := by rw [hq, ← ha]; exact Blk.new' _ _ _ _ rfl
     have laX : w2.heap.size ≤ aX := by rw [← ha]; exact bw.size
     have sep : aX < lo' ∨ up' ≤ aX := .inr (by have := pJ.up; omega)
     exact key_ad_2_3_7 aX i k lo' s up' v' q ⟨bw2, kK2, kR2, kX2, pC2, pI2, pJ2, hsb, laX, sep⟩
  case key =>
   rintro aX i k s r ⟨bw, kK, kR, kX, pC, pI, hsb, laX⟩
   try dsimp only
   refine wpAnyH_ready (rs := [3]) (by kernel_rfl) (by simp) ?_
   refine AllReadyH.cons (o := ?oi2012) ?hi2012 (fun K hK => ?br2012) AllReadyH.nil
   case hi2012 => (conv => lhs; simp only [gT_, gZ_, gS_]); try exact rfl
   case br2012 =>
    go_simp
    go_at_call 17
    refine (bookDo_spec _ B HSz.out k s i (by omega) (show doBk B k s i = ((doBk B k s i).1, (doBk B k s i).2) from rfl) _ pI.is.isBk).mono ?_
    rintro e q ⟨v', lo', up', rfl, hlo', hin', hb⟩
    have bw2 := gb_below bw hb
    have kK2 := kK.below hb kK.lt
    have kR2 := kR.below hb kR.lt
    have kX2 := kX.below hb kX.lt
    have pC2 : Curs q g A n cp bs := pC.below hb
    have pI2 : InAt (OwnBk lo (.agg #[.slice A1 B.rg.length c1, .slice A2 B.hm.length c2, .slice A3 B.pd.length c3, .slice A4 B.dr.length c4, .int .i64 B.sq, .int .i64 B.bs, .int .i64 B.sf, .int .i64 B.at_, .int .i64 B.df]) B) lo up q := pI.next hb
    have pJ2 : BkO w2.heap.size lo' up' v' q := ⟨by have := bw.size; omega, _, hin', doBk_ok Hok.out (show doBk B k s i = ((doBk B k s i).1, (doBk B k s i).2) from rfl), doBk_small Hok.out Hsm.out (show doBk B k s i = ((doBk B k s i).1, (doBk B k s i).2) from rfl)⟩
    have sep : aX < lo' ∨ up' ≤ aX := .inl (by have := kX.lt; omega)
    refine hK.out _ _ (by exact kK2.g9) (fun _ => ?_)
    clear hK K
    try simp only [Act.put, pT_, pZ_, pS_]
    refine tkV_ 4 (v := ?v2013) ?hy2013 ?hS2013 ?hr2013
    case hS2013 => exact kK2.g9
    case hy2013 => refine Or.inl ⟨by rfl, ?_⟩; intro w hSw; (try dsimp only at hSw); go_simp; (try with_reducible rfl)
    simp only [Act.put, pT_, pZ_, pS_]
    refine tkV_ 5 (v := ?v2014) ?hy2014 ?hS2014 ?hr2014
    case hS2014 => exact kK2.g9
    case hy2014 => refine Or.inl ⟨by rfl, ?_⟩; intro w hSw; (try dsimp only at hSw); go_simp; (try with_reducible rfl)
    simp only [Act.put, pT_, pZ_, pS_]
    refine tkV_ 6 (v := ?v2015) ?hy2015 ?hS2015 ?hr2015
    case hS2015 => exact kK2.g9
    case hy2015 => refine Or.inl ⟨by rfl, ?_⟩; intro w hSw; (try dsimp only at hSw); go_simp; (try with_reducible rfl)
    simp only [Act.put, pT_, pZ_, pS_]
    exact key_ad_2_3_7 aX i k lo' s up' v' q ⟨bw2, kK2, kR2, kX2, pC2, pI2, pJ2, hsb, laX, sep⟩
 case key =>
  rintro aX i k lo' s up' v' r ⟨bw, kK, kR, kX, pC, pI, pJ, hsb, laX, sep⟩
  try dsimp only
  refine wpAnyH_ready (rs := [8]) (by kernel_rfl) (by simp) ?_
  refine AllReadyH.cons (o := ?oi2016) ?hi2016 (fun K hK => ?br2016) AllReadyH.nil
  case hi2016 => (conv => lhs; simp only [gT_, gZ_, gS_]); try exact rfl
  case br2016 =>
   obtain ⟨hlo', B', hin', hok', hsm'⟩ := pJ
   obtain ⟨F1, f1, F2, f2, F3, f3, F4, f4, rfl, _⟩ := hin'.is.isBk
   have x_0 := kX.get (x := .slice none 0 0) 0 rfl
   have x_1 := kX.get (x := .slice none 0 0) 1 rfl
   have x_2 := kX.get (x := .slice none 0 0) 2 rfl
   have x_3 := kX.get (x := .slice none 0 0) 3 rfl
   have x_4 := kX.get (x := .int .i64 0) 4 rfl
   have x_5 := kX.get (x := .int .i64 0) 5 rfl
   have x_6 := kX.get (x := .int .i64 0) 6 rfl
   have x_7 := kX.get (x := .int .i64 0) 7 rfl
   have x_8 := kX.get (x := .int .i64 0) 8 rfl
   obtain ⟨f_0, f_1, f_2, f_3, f_4, f_5, f_6, f_7, f_8⟩ := kX.f9
   have lE := kX.lt
   obtain ⟨w9, h9, hX9, s9, hb9, ho9⟩ := put9n r aX 28 (.slice F1 B'.rg.length f1) (.slice F2 B'.hm.length f2) (.slice F3 B'.pd.length f3) (.slice F4 B'.dr.length f4) (.int .i64 B'.sq) (.int .i64 B'.bs) (.int .i64 B'.sf) (.int .i64 B'.at_) (.int .i64 B'.df) (.slice none 0 0) (.slice none 0 0) (.slice none 0 0) (.slice none 0 0) (.int .i64 0) (.int .i64 0) (.int .i64 0) (.int .i64 0) (.int .i64 0) kX
   have K9 := kK.eqN (ho9 _ (by have := laX; omega))
   have R9 := kR.eqN (ho9 _ (by have := laX; omega))
   have J9 : BkO w.heap.size lo' up' _ w9 := (show BkO w.heap.size lo' up' _ r from ⟨by omega, B', hin', hok', hsm'⟩).same (by omega) (fun j h1 h2 => ho9 j (by rcases sep with h | h <;> omega))
   have C9 : Curs w9 g A n cp bs := pC.bel (hb9 (g + 1) _ (by have := laX; omega) (Below.refl _ _)) (by omega)
   have G9 : w.grownBy w9 (some g) := gb_bel0 (G2.trans bw) (hb9 w.heap.size _ (by have := laX; omega) (Below.refl _ _))
   have zr := bw.size
   go_simp
   refine hK.out _ _ (by first | exact K9.g9 | (rw [h9]; exact K9.g9)) (fun _ => ?_)
   clear hK K
   try simp only [Act.put, pT_, pZ_, pS_]
   try rw [h9]
   clear h9 hb9 ho9 lE kX kR pC pI bw hin' x_0 x_1 x_2 x_3 x_4 x_5 x_6 x_7 x_8 f_0 f_1 f_2 f_3 f_4 f_5 f_6 f_7 f_8
   refine tkV_ 9 (v := ?v2017) ?hy2017 ?hS2017 ?hr2017
   case hS2017 => exact K9.g9
   case hy2017 => refine Or.inl ⟨by rfl, ?_⟩; intro w hSw; (try dsimp only at hSw); go_simp; (try with_reducible rfl)
   simp only [Act.put, pT_, pZ_, pS_]
   refine wpAnyH_done (by kernel_rfl) ?_ _
   obtain ⟨y0, y1, y2, y3, y4, y5, y6, y7, y8⟩ := hX9.g9
   have l1 := hX9.lt
   obtain ⟨q0, q1, q2, q3, q4, q5, q6, q7, q8⟩ := R9.g9
   obtain ⟨p0, p1, p2, p3, p4, p5, p6, p7, p8⟩ := R9.f9
   have l2 := R9.lt
   go_wp2
   obtain ⟨w10, h10, hB10, s10, hb10, ho10⟩ := put9n w9 (w.heap.size + 1) 28 (.slice F1 B'.rg.length f1) (.slice F2 B'.hm.length f2) (.slice F3 B'.pd.length f3) (.slice F4 B'.dr.length f4) (.int .i64 B'.sq) (.int .i64 B'.bs) (.int .i64 B'.sf) (.int .i64 B'.at_) (.int .i64 B'.df) (.slice none 0 0) (.slice none 0 0) (.slice none 0 0) (.slice none 0 0) (.int .i64 0) (.int .i64 0) (.int .i64 0) (.int .i64 0) (.int .i64 0) R9
   rw [h10]
   clear h10 l1 l2 q0 q1 q2 q3 q4 q5 q6 q7 q8 p0 p1 p2 p3 p4 p5 p6 p7 p8 y0 y1 y2 y3 y4 y5 y6 y7 y8
   obtain ⟨r0, r1, r2, r3, r4, r5, r6, r7, r8⟩ := hB10.g9
   refine bodyPost_ret (v := .agg #[.slice F1 B'.rg.length f1, .slice F2 B'.hm.length f2, .slice F3 B'.pd.length f3, .slice F4 B'.dr.length f4, .int .i64 B'.sq, .int .i64 B'.bs, .int .i64 B'.sf, .int .i64 B'.at_, .int .i64 B'.df]) (by simp [results, Tryz.results64, go_sem, r0, r1, r2, r3, r4, r5, r6, r7, r8]) rfl ⟨_, lo', up', rfl, J9.same (by omega) (fun j h1 h2 => ho10 j (by omega)), C9.bel (hb10 (g + 1) _ (by omega) (Below.refl _ _)) (by omega), gb_bel0 G9 (hb10 w.heap.size _ (by omega) (Below.refl _ _))⟩

end Go.Proofs.YtghgafbfpejinaaGreatDoor
