/- The law FnBook, walked: a logged directory is, wherever power falls, what it was behind one of its changes. -/
import Derived.Test.YtghgafbfpejinaaGreatDoorRFkB
import Derived.Deep.CutBlock
namespace Go.Proofs.YtghgafbfpejinaaGreatDoor
open Go Go.RowKit

theorem row_cell {w : World} {b0 g c n k : Nat} {e : TypeId} {xs : List Value} {v : Value} (h : w.ownsRow b0 e 1 (.slice (some ⟨g, 0, none⟩) n c) n xs) (hk : xs[k]? = some v) : w.cell? ⟨g, k, none⟩ = some v := by
 have hl : k < xs.length := (List.getElem?_eq_some_iff.1 hk).1
 obtain ⟨A, c', he, _, _, hr⟩ := own_vals h
 simp only [Value.slice.injEq, true_and] at he
 obtain ⟨rfl, rfl⟩ := he
 have := h.1
 obtain ⟨ad, hA, _, hc⟩ := hr.2 (by omega)
 simp only [Option.some.injEq] at hA
 subst hA
 have h2 := hc k _ hk
 rcases k with _ | k
 ·simpa [Addr.add] using h2
 ·simpa [Addr.add] using h2
theorem bk_dir {w : World} {B : BookD} {A1 A2 A3 A4 : Option Addr} {c1 c2 c3 c4 : Nat} {sq bs sf at_ df : Int} (h : IsBook w (.agg #[.slice A1 B.rg.length c1, .slice A2 B.hm.length c2, .slice A3 B.pd.length c3, .slice A4 B.dr.length c4, .int .i64 sq, .int .i64 bs, .int .i64 sf, .int .i64 at_, .int .i64 df]) B) : IsS w (.slice A4 B.dr.length c4) B.dr := by
 obtain ⟨A1', c1', A2', c2', A3', c3', A4', c4', he, h2⟩ := h
 simp only [Value.agg.injEq, Array.mk.injEq, List.cons.injEq, Value.slice.injEq] at he
 obtain ⟨_, _, _, ⟨rfl, _, rfl⟩, _⟩ := he
 exact ⟨_, _, rfl, h2.2.2.2⟩
theorem foldMet {J : Act → World → Prop} {a : Act} {w : World} (h : ∀ w', w' = w → Go.Met J a w') : Go.Met J a w := h w rfl
theorem mem4_nnvw {G P : (Nat) → (Nat) → (Value) → (World) → Prop} {R : Prop} (use : (∀ (x0 : Nat) (x1 : Nat) (x2 : Value) (x3 : World), P x0 x1 x2 x3 → G x0 x1 x2 x3) → R) (key : ∀ (x0 : Nat) (x1 : Nat) (x2 : Value) (x3 : World), P x0 x1 x2 x3 → G x0 x1 x2 x3) : R := use key
theorem mem4_nnnvw {G P : (Nat) → (Nat) → (Nat) → (Value) → (World) → Prop} {R : Prop} (use : (∀ (x0 : Nat) (x1 : Nat) (x2 : Nat) (x3 : Value) (x4 : World), P x0 x1 x2 x3 x4 → G x0 x1 x2 x3 x4) → R) (key : ∀ (x0 : Nat) (x1 : Nat) (x2 : Nat) (x3 : Value) (x4 : World), P x0 x1 x2 x3 x4 → G x0 x1 x2 x3 x4) : R := use key
set_option maxRecDepth 100000 in
set_option maxHeartbeats 4000000 in
theorem law_fnBook (A : Option Addr) (n cp : Nat) (bt : List UInt8) (w : World) (hT : Tab w) (hr : Reads w w.heap.size 1 A n (B8 bt)) :
  Calls Tryz.prog 3 #[.slice A n cp] w fun e w' => e = .returned (.bool true) ∧ Below w.heap.size w w' := by
 have HT := Lib.hid hT
 have Hr := Lib.hid hr
 clear hT hr
 by_cases hbig : 1048576 < n
 ·have Hd := Lib.hid (show decide (1048576 < n) = true by simpa using hbig)
  go_enter Tryz.func3, Tryz.ntmps3
  go_wp2_with fail
  refine (big_any A n cp w).mono ?_
  rintro e w1 ⟨rfl, hb1⟩
  rw [Hd.out]
  go_wp2
  go_ret
  exact ⟨rfl, hb1⟩
 have Hd := Lib.hid (show decide (1048576 < n) = false by simpa using hbig)
 go_enter Tryz.func3, Tryz.ntmps3
 go_wp2_with fail
 refine (big_any A n cp w).mono ?_
 rintro e w1 ⟨rfl, hb1⟩
 rw [Hd.out]
 have BW := hb1
 clear hb1
 go_wp2_with fail
 refine (newBook_impl w1 (HT.out.bl BW)).mono ?_
 rintro e w2 ⟨v, lo, up, rfl, hlo, hin, hb2⟩
 have BW := belN BW hb2
 have hIN : InAt (fun w => IsBook w v newB) lo up w2 := hin.map fun _ h => h.isBk
 obtain ⟨NA1, Nc1, NA2, Nc2, NA3, Nc3, NA4, Nc4, hv, _⟩ := hin.is.isBk
 subst hv
 have HIN : Hid (InAt (fun w => IsBook w (.agg #[.slice NA1 newB.rg.length Nc1, .slice NA2 newB.hm.length Nc2, .slice NA3 newB.pd.length Nc3, .slice NA4 newB.dr.length Nc4, .int .i64 newB.sq, .int .i64 newB.bs, .int .i64 newB.sf, .int .i64 newB.at_, .int .i64 newB.df]) newB) lo up w2) := Lib.hid hIN
 clear hIN hin
 obtain ⟨p, hp⟩ : ∃ p, w2.heap.size = p := ⟨_, rfl⟩
 have s2 := hb2.size
 have hup := HIN.out.1
 obtain ⟨W3, hW3⟩ : ∃ W, w2.alloc (.cells #[.slice NA1 newB.rg.length Nc1, .slice NA2 newB.hm.length Nc2, .slice NA3 newB.pd.length Nc3, .slice NA4 newB.dr.length Nc4, .int .i64 newB.sq, .int .i64 newB.bs, .int .i64 newB.sf, .int .i64 newB.at_, .int .i64 newB.df] 28) = W := ⟨_, rfl⟩
 have kP : Blk W3 p 28 #[.slice NA1 newB.rg.length Nc1, .slice NA2 newB.hm.length Nc2, .slice NA3 newB.pd.length Nc3, .slice NA4 newB.dr.length Nc4, .int .i64 newB.sq, .int .i64 newB.bs, .int .i64 newB.sf, .int .i64 newB.at_, .int .i64 newB.df] := by rw [← hW3, ← hp]; exact Blk.new' _ _ _ _ rfl
 have BW3 : Below w.heap.size w W3 := by rw [← hW3]; exact belA BW _
 have s3 : W3.heap.size = p + 1 := by rw [← hW3]; simp; omega
 have HIN3 : Hid (InAt (fun w => IsBook w (.agg #[.slice NA1 newB.rg.length Nc1, .slice NA2 newB.hm.length Nc2, .slice NA3 newB.pd.length Nc3, .slice NA4 newB.dr.length Nc4, .int .i64 newB.sq, .int .i64 newB.bs, .int .i64 newB.sf, .int .i64 newB.at_, .int .i64 newB.df]) newB) lo up W3) := Lib.hid (by rw [← hW3]; exact HIN.out.next (belA (bel0 _) _))
 have HW3 := Lib.hid hW3
 have HPp := Lib.hid hp
 have bw0 := BW.size
 clear hW3 HIN hb2
 go_upto_region 4 with fail
 rw [HW3.out]
 try rw [HPp.out]
 clear HW3 BW
 have FK0 : Hid (FkS w p (.slice (some ⟨p + 1 + 1, 0, none⟩) 1 1) ((W3.alloc (.cells #[] 66)).alloc (.cells #[.slice (some ⟨p + 1, 0, none⟩) 0 0] 26))) := Lib.hid (by have h := FkS.start kP HIN3.out (by omega) (by omega) BW3; rw [s3] at h; exact h)
 clear kP HIN3 BW3 hlo hup
 go_wp2_with fail
 go_loopw [4, 5] (fun v j wr => ∃ k : Nat, j = .int .i64 (k : Int) ∧ k ≤ 40 ∧ Hid (FkS w p v wr)) (fun _ j _ => 40 - (intOf j).toNat)
 case atStart => exact ⟨0, rfl, by omega, FK0⟩
 case round =>
  clear FK0 s2 s3 bw0 HPp
  obtain ⟨k, rfl, hk, FK⟩ := hrel
  by_cases h40 : k < 40
  ·have hk1 : (k : Int) < 40 := by omega
   have hBW : Below w.heap.size w wr := by obtain ⟨_, _, _, _, _, _, _, _, _, _, _, _, _, _, _, _, _, h⟩ := FK.out; exact h
   have BW := hBW
   clear hBW
   go_wp2_with fail
   refine (fresh_any A n cp bt (by omega) k (by omega) wr ((Hr.out.below BW).more BW.size)).mono ?_
   rintro e w3 ⟨A', n', c', bs', rfl, hn', hr3, hb3⟩
   have FK3 := Lib.hid (FK.out.below hb3)
   have BW3 := belN BW hb3
   clear FK BW hb3
   go_wp2_with fail
   refine (drawBookDo_any A' n' c' bs' (by omega) w3 hr3).mono ?_
   rintro e w4 ⟨vD, Bd, kd, s, i, rfl, hs, hI, _, hb4⟩
   have FK4 := Lib.hid (FK3.out.below hb4)
   have BW4 := belN BW3 hb4
   have hb40 := hb4.size
   clear FK3 BW3 hb4 hr3
   obtain ⟨DA1, Dc1, DA2, Dc2, DA3, Dc3, DA4, Dc4, rfl, _⟩ := hI
   obtain ⟨po, hpo⟩ : ∃ q, w4.heap.size + 1 = q := ⟨_, rfl⟩
   obtain ⟨W5, hW5⟩ : ∃ W, (w4.alloc (.cells #[.slice DA1 Bd.rg.length Dc1, .slice DA2 Bd.hm.length Dc2, .slice DA3 Bd.pd.length Dc3, .slice DA4 Bd.dr.length Dc4, .int .i64 Bd.sq, .int .i64 Bd.bs, .int .i64 Bd.sf, .int .i64 Bd.at_, .int .i64 Bd.df] 28)).alloc (.cells #[.int .i64 kd, .string s, .int .i64 i] 32) = W := ⟨_, rfl⟩
   have kO : Blk W5 po 32 #[.int .i64 kd, .string s, .int .i64 i] := by rw [← hW5, ← hpo]; exact Blk.new' _ _ _ _ (by simp)
   have FK5 : Hid (FkS w p u4 W5) := Lib.hid (by rw [← hW5]; exact FK4.out.below (belA (belA (bel0 w4) _) _))
   have BW5 : Below w.heap.size w W5 := by rw [← hW5]; exact belA (belA BW4 _) _
   have HW5 := Lib.hid hW5
   have HPo := Lib.hid hpo
   clear hW5 hpo FK4
   go_upto_region 9 with fail
   try rw [HPo.out]
   rw [HW5.out]
   clear HW5 HPo BW4
   obtain ⟨x, hx0, hx1, hat⟩ := at_same A n cp bt (by omega) k (by omega) w Hr.out
   have Hat := Lib.hid hat
   clear hat
   go_wp2_with fail
   refine (Hat.out W5 BW5).mono ?_
   rintro e w6 ⟨rfl, rfl⟩
   obtain ⟨m, hm⟩ : ∃ m, x.tmod 8 = m := ⟨_, rfl⟩
   clear Hat hx0 hx1
   go_upto_block 2 with fail
   go_cut [4] from 27 to 175 (fun s4 wx => Hid (FkS w p s4 wx))
   case rest => as_aux_lemma =>
    have FKx := hcut
    clear FK5 kO BW5 hcut hm
    have FKo := FKx.out
    obtain ⟨B, was, ops, bs, sf, sq, g, c, vs, rfl, hJ, hS, hX, hE, hO, hp0, hpg, BWx⟩ := FKo
    have HJ := Lib.hid hJ
    have HS := Lib.hid hS
    have HE := Lib.hid hE
    have HO := Lib.hid hO
    obtain ⟨BA1, Bc1, BA2, Bc2, BA3, Bc3, BA4, Bc4, lo, up, kP, hin, hoff⟩ := hX
    have HIN : Hid (InAt (fun w => IsBook w (.agg #[.slice BA1 B.rg.length Bc1, .slice BA2 B.hm.length Bc2, .slice BA3 B.pd.length Bc3, .slice BA4 B.dr.length Bc4, .int .i64 B.sq, .int .i64 B.bs, .int .i64 B.sf, .int .i64 B.at_, .int .i64 B.df]) B) lo up wc) := Lib.hid hin
    have HSZ := Lib.hid (smB_sz hJ.ok hS)
    have HBD := Lib.hid hJ.bd
    have hlen := hJ.len
    have esq := hJ.esq
    have hl : vs.length = was.length := by have := hO.1; omega
    have hbd := hJ.bd.2.2.2.1
    clear hJ hS hin hoff
    obtain ⟨vk, hvk, hIk⟩ := HE.out.get hl (k := sq) (by omega)
    rw [HJ.out.cur] at hIk
    obtain ⟨vA, vc, rfl, hRk⟩ := hIk
    have HIk : Hid (IsS wc (.slice vA B.dr.length vc) B.dr) := Lib.hid ⟨vA, vc, rfl, hRk⟩
    clear hRk
    have cw : wc.cell? ⟨g, sq, none⟩ = some (.slice vA B.dr.length vc) := row_cell HO.out hvk
    have hi0 : (0 : Int) ≤ B.sq := by omega
    have hi1 : B.sq < ((was.length : Nat) : Int) := by omega
    have ht : B.sq.toNat = sq := by omega
    have hk12 : B.dr.length ≤ 1000000 := by have := dir12 (bk_is HJ.out.ok).d; omega
    have HOK := Lib.hid HJ.out.ok
    have zx := kP.lt
    clear hE hO esq hl hbd hvk hlen HJ HS
    obtain ⟨q0, q1, q2, q3, q4, q5, q6, q7, q8⟩ := kP.g9
    obtain ⟨f0, f1, f2, f3, f4, f5, f6, f7, f8⟩ := kP.f9
    go_wp2_with fail
    go_region_held3 (fun w' => w'.cell? ⟨p, 0, none⟩ = some (.slice BA1 B.rg.length Bc1) ∧ w'.cell? ⟨p, 1, none⟩ = some (.slice BA2 B.hm.length Bc2) ∧ w'.cell? ⟨p, 2, none⟩ = some (.slice BA3 B.pd.length Bc3) ∧ w'.cell? ⟨p, 3, none⟩ = some (.slice BA4 B.dr.length Bc4) ∧ w'.cell? ⟨p, 4, none⟩ = some (.int .i64 B.sq) ∧ w'.cell? ⟨p, 5, none⟩ = some (.int .i64 B.bs) ∧ w'.cell? ⟨p, 6, none⟩ = some (.int .i64 B.sf) ∧ w'.cell? ⟨p, 7, none⟩ = some (.int .i64 B.at_) ∧ w'.cell? ⟨p, 8, none⟩ = some (.int .i64 B.df) ∧ w'.cell? ⟨g, sq, none⟩ = some (.slice vA B.dr.length vc)) (first | go_keep | (refine ⟨keep1 hb11 ?_, keep1 hb11 ?_, keep1 hb11 ?_, keep1 hb11 ?_, keep1 hb11 ?_, keep1 hb11 ?_, keep1 hb11 ?_, keep1 hb11 ?_, keep1 hb11 ?_, keep1 hb11 ?_⟩ <;> go_keep) | (refine ⟨keep1 hb12 ?_, keep1 hb12 ?_, keep1 hb12 ?_, keep1 hb12 ?_, keep1 hb12 ?_, keep1 hb12 ?_, keep1 hb12 ?_, keep1 hb12 ?_, keep1 hb12 ?_, keep1 hb12 ?_⟩ <;> go_keep)) (first | (go_at_call 16; refine (bookOk_spec _ B HSZ.out _ (HIN.out.is.next (bel0 wc).drew)).mono ?_; rintro e w11 ⟨rfl, hb11⟩; rw [HOK.out]) | (go_at_call 13; refine (sameDir_self _ _ B.dr hk12 _ ((bk_dir HIN.out.is).next ((bel0 wc).drew.trans hb11)) (HIk.out.next ((bel0 wc).drew.trans hb11))).mono ?_; rintro e w12 ⟨rfl, hb12⟩))
    have hbq : Below wc.heap.size wc w12 := ((bel0 wc).drew.trans hb11).trans (hb12.mono hb11.size)
    have FKe := Lib.hid (FKx.out.below hbq)
    go_wp2
    go_roundw
    case rel => exact ⟨k + 1, by go_num, by omega, FKe⟩
    case measure => simp [intOf]; omega
   case first =>
    clear hm
    by_cases m0 : m = 0
    ·have t0 : (m == 0) = true := by rw [m0]; rfl
     clear m0
     have FKo := FK5.out
     obtain ⟨B, was, ops, bs, sf, sq, g, c, vs, rfl, hJ, hS, hX, hE, hO, hp0, hpg, BWx⟩ := FKo
     have HJ := Lib.hid hJ
     have HS := Lib.hid hS
     have HE := Lib.hid hE
     have HO := Lib.hid hO
     obtain ⟨BA1, Bc1, BA2, Bc2, BA3, Bc3, BA4, Bc4, lo, up, kP, hin, hoff⟩ := hX
     have HIN : Hid (InAt (fun w => IsBook w (.agg #[.slice BA1 B.rg.length Bc1, .slice BA2 B.hm.length Bc2, .slice BA3 B.pd.length Bc3, .slice BA4 B.dr.length Bc4, .int .i64 B.sq, .int .i64 B.bs, .int .i64 B.sf, .int .i64 B.at_, .int .i64 B.df]) B) lo up w6) := Lib.hid hin
     have HSZ := Lib.hid (smB_sz hJ.ok hS)
     have HBD := Lib.hid hJ.bd
     have hlen := hJ.len
     have esq := hJ.esq
     have hl : vs.length = was.length := by have := hO.1; omega
     have hbd := hJ.bd.2.2.2.1
     clear hJ hS hin hoff
     obtain ⟨X, b1, hX⟩ : ∃ X b1, flushP B = (X, b1) := ⟨_, _, rfl⟩
     have hXb : b1 = true ∧ X = flB B := by rw [flush_yes HJ.out.ok] at hX; injection hX with h1 h2; exact ⟨h2.symm, h1.symm⟩
     obtain ⟨rfl, hXe⟩ := hXb
     have JX : Hid (JB X was ops (if B.df = 0 then bs else sf) sq sq) := Lib.hid (by rw [hXe]; exact HJ.out.flush)
     have SX : Hid (SmB X) := Lib.hid (by rw [hXe]; exact flB_small HJ.out.ok HS.out)
     have e1 : (X.sf != B.sq) = false := by have h1 := JX.out.esf; have h2 := HJ.out.esq; rw [h1, h2, bne_self_eq_false]
     have HX := Lib.hid hX
     clear hX hXe hE hO esq hl hbd hlen HBD BWx
     obtain ⟨q0, q1, q2, q3, q4, q5, q6, q7, q8⟩ := kP.g9
     have lP := kP.lt
     have hpW := kP.lt
     go_wp2_with fail
     refine (bookFlush_impl _ B HSZ.out HX.out w6 (HT.out.bl BW5) HIN.out.is).mono ?_
     rintro e w7 ⟨v', lo', up', rfl, hlo', hin', hb7⟩
     clear lP q0 q1 q2 q3 q4 q5 q6 q7 q8
     have kP7 := kP.below hb7 kP.lt
     have BW7 := belN BW5 hb7
     have s7 := hb7.size
     obtain ⟨XA1, Xc1, XA2, Xc2, XA3, Xc3, XA4, Xc4, hv, _⟩ := hin'.is.isBk
     subst hv
     have HIN7 : Hid (InAt (fun w => IsBook w (.agg #[.slice XA1 X.rg.length Xc1, .slice XA2 X.hm.length Xc2, .slice XA3 X.pd.length Xc3, .slice XA4 X.dr.length Xc4, .int .i64 X.sq, .int .i64 X.bs, .int .i64 X.sf, .int .i64 X.at_, .int .i64 X.df]) X) lo' up' w7) := Lib.hid (hin'.map fun _ h => h.isBk)
     clear hin'
     obtain ⟨px, hpx⟩ : ∃ q, w7.heap.size = q := ⟨_, rfl⟩
     obtain ⟨W8, hW8⟩ : ∃ W, w7.alloc (.cells #[.slice XA1 X.rg.length Xc1, .slice XA2 X.hm.length Xc2, .slice XA3 X.pd.length Xc3, .slice XA4 X.dr.length Xc4, .int .i64 X.sq, .int .i64 X.bs, .int .i64 X.sf, .int .i64 X.at_, .int .i64 X.df] 28) = W := ⟨_, rfl⟩
     have kX : Blk W8 px 28 #[.slice XA1 X.rg.length Xc1, .slice XA2 X.hm.length Xc2, .slice XA3 X.pd.length Xc3, .slice XA4 X.dr.length Xc4, .int .i64 X.sq, .int .i64 X.bs, .int .i64 X.sf, .int .i64 X.at_, .int .i64 X.df] := by rw [← hW8, ← hpx]; exact Blk.new' _ _ _ _ rfl
     have kP8 : Blk W8 p 28 #[.slice BA1 B.rg.length Bc1, .slice BA2 B.hm.length Bc2, .slice BA3 B.pd.length Bc3, .slice BA4 B.dr.length Bc4, .int .i64 B.sq, .int .i64 B.bs, .int .i64 B.sf, .int .i64 B.at_, .int .i64 B.df] := by rw [← hW8]; exact kP7.alloc _
     have HIN8 : Hid (InAt (fun w => IsBook w (.agg #[.slice XA1 X.rg.length Xc1, .slice XA2 X.hm.length Xc2, .slice XA3 X.pd.length Xc3, .slice XA4 X.dr.length Xc4, .int .i64 X.sq, .int .i64 X.bs, .int .i64 X.sf, .int .i64 X.at_, .int .i64 X.df]) X) lo' up' W8) := Lib.hid (by rw [← hW8]; exact HIN7.out.next (belA (bel0 _) _))
     have hb8 : Below w6.heap.size w6 W8 := by rw [← hW8]; exact belA hb7 _
     have BW8 : Below w.heap.size w W8 := belN BW5 hb8
     have hpx7 : p ≠ px := by omega
     have HW8 := Lib.hid hW8
     have HPx := Lib.hid hpx
     clear hW8 hpx kP7 HIN7 BW7 s7 hb7
     go_upto_region 19 with fail
     try rw [HW8.out]
     try rw [HPx.out]
     clear HW8 HPx
     obtain ⟨c0, c1, c2, c3, c4, c5, c6, c7, c8⟩ := kX.g9
     obtain ⟨q0, q1, q2, q3, q4, q5, q6, q7, q8⟩ := kP8.g9
     obtain ⟨f0, f1, f2, f3, f4, f5, f6, f7, f8⟩ := kP8.f9
     have lP := kP8.lt
     have lX := kX.lt
     go_wp2_with fail
     obtain ⟨w9, h9, hB9, s9, hb9, ho9⟩ := put9n W8 p 28 (.slice XA1 X.rg.length Xc1) (.slice XA2 X.hm.length Xc2) (.slice XA3 X.pd.length Xc3) (.slice XA4 X.dr.length Xc4) (.int .i64 X.sq) (.int .i64 X.bs) (.int .i64 X.sf) (.int .i64 X.at_) (.int .i64 X.df) (.slice BA1 B.rg.length Bc1) (.slice BA2 B.hm.length Bc2) (.slice BA3 B.pd.length Bc3) (.slice BA4 B.dr.length Bc4) (.int .i64 B.sq) (.int .i64 B.bs) (.int .i64 B.sf) (.int .i64 B.at_) (.int .i64 B.df) kP8
     refine foldMet ?_; intro W9 hW9; have hW9' : W9 = w9 := hW9.trans h9; clear hW9; subst hW9'
     clear h9 lP lX q0 q1 q2 q3 q4 q5 q6 q7 q8 c0 c1 c2 c3 c4 c5 c6 c7 c8 f0 f1 f2 f3 f4 f5 f6 f7 f8
     go_meet
     case rel => exact Lib.hid (FkS.arm JX.out SX.out HE.out HO.out hp0 hpW hpg hb8 hlo' hB9 HIN8.out s9 ho9 (hb9 _ _ hp0 BW8))
    have t0 : (m == 0) = false := by simpa using m0
    clear m0
    by_cases m1 : m = 1
    ·have t1 : (m == 1) = true := by rw [m1]; rfl
     clear m1
     have FKo := FK5.out
     obtain ⟨B, was, ops, bs, sf, sq, g, c, vs, rfl, hJ, hS, hX, hE, hO, hp0, hpg, BWx⟩ := FKo
     have HJ := Lib.hid hJ
     have HS := Lib.hid hS
     have HE := Lib.hid hE
     have HO := Lib.hid hO
     obtain ⟨BA1, Bc1, BA2, Bc2, BA3, Bc3, BA4, Bc4, lo, up, kP, hin, hoff⟩ := hX
     have HIN : Hid (InAt (fun w => IsBook w (.agg #[.slice BA1 B.rg.length Bc1, .slice BA2 B.hm.length Bc2, .slice BA3 B.pd.length Bc3, .slice BA4 B.dr.length Bc4, .int .i64 B.sq, .int .i64 B.bs, .int .i64 B.sf, .int .i64 B.at_, .int .i64 B.df]) B) lo up w6) := Lib.hid hin
     have HSZ := Lib.hid (smB_sz hJ.ok hS)
     have HBD := Lib.hid hJ.bd
     have hlen := hJ.len
     have esq := hJ.esq
     have hl : vs.length = was.length := by have := hO.1; omega
     have hbd := hJ.bd.2.2.2.1
     clear hJ hS hin hoff
     obtain ⟨X, b1, hX⟩ : ∃ X b1, homeBk B = (X, b1) := ⟨_, _, rfl⟩
     obtain ⟨sf', hJX⟩ : ∃ sf', JB X was ops bs sf' sq := (HJ.out.home hX).elim (fun ⟨_, h⟩ => ⟨sf, by rw [h]; exact HJ.out⟩) (fun ⟨_, h⟩ => ⟨sq, h⟩)
     have JX := Lib.hid hJX
     have SX : Hid (SmB X) := Lib.hid (homeBk_small HJ.out.ok HS.out hX)
     have HX := Lib.hid hX
     clear hX hJX hE hO esq hl hbd hlen HBD BWx
     obtain ⟨q0, q1, q2, q3, q4, q5, q6, q7, q8⟩ := kP.g9
     have lP := kP.lt
     have hpW := kP.lt
     go_wp2_with fail
     clear t0 t1
     refine (bookHome_impl _ B HSZ.out HX.out w6 (HT.out.bl BW5) HIN.out.is).mono ?_
     rintro e w7 ⟨v', lo', up', rfl, hlo', hin', hb7⟩
     clear lP q0 q1 q2 q3 q4 q5 q6 q7 q8
     have kP7 := kP.below hb7 kP.lt
     have BW7 := belN BW5 hb7
     have s7 := hb7.size
     obtain ⟨XA1, Xc1, XA2, Xc2, XA3, Xc3, XA4, Xc4, hv, _⟩ := hin'.is.isBk
     subst hv
     have HIN7 : Hid (InAt (fun w => IsBook w (.agg #[.slice XA1 X.rg.length Xc1, .slice XA2 X.hm.length Xc2, .slice XA3 X.pd.length Xc3, .slice XA4 X.dr.length Xc4, .int .i64 X.sq, .int .i64 X.bs, .int .i64 X.sf, .int .i64 X.at_, .int .i64 X.df]) X) lo' up' w7) := Lib.hid (hin'.map fun _ h => h.isBk)
     clear hin'
     obtain ⟨px, hpx⟩ : ∃ q, w7.heap.size = q := ⟨_, rfl⟩
     obtain ⟨W8, hW8⟩ : ∃ W, w7.alloc (.cells #[.slice XA1 X.rg.length Xc1, .slice XA2 X.hm.length Xc2, .slice XA3 X.pd.length Xc3, .slice XA4 X.dr.length Xc4, .int .i64 X.sq, .int .i64 X.bs, .int .i64 X.sf, .int .i64 X.at_, .int .i64 X.df] 28) = W := ⟨_, rfl⟩
     have kX : Blk W8 px 28 #[.slice XA1 X.rg.length Xc1, .slice XA2 X.hm.length Xc2, .slice XA3 X.pd.length Xc3, .slice XA4 X.dr.length Xc4, .int .i64 X.sq, .int .i64 X.bs, .int .i64 X.sf, .int .i64 X.at_, .int .i64 X.df] := by rw [← hW8, ← hpx]; exact Blk.new' _ _ _ _ rfl
     have kP8 : Blk W8 p 28 #[.slice BA1 B.rg.length Bc1, .slice BA2 B.hm.length Bc2, .slice BA3 B.pd.length Bc3, .slice BA4 B.dr.length Bc4, .int .i64 B.sq, .int .i64 B.bs, .int .i64 B.sf, .int .i64 B.at_, .int .i64 B.df] := by rw [← hW8]; exact kP7.alloc _
     have HIN8 : Hid (InAt (fun w => IsBook w (.agg #[.slice XA1 X.rg.length Xc1, .slice XA2 X.hm.length Xc2, .slice XA3 X.pd.length Xc3, .slice XA4 X.dr.length Xc4, .int .i64 X.sq, .int .i64 X.bs, .int .i64 X.sf, .int .i64 X.at_, .int .i64 X.df]) X) lo' up' W8) := Lib.hid (by rw [← hW8]; exact HIN7.out.next (belA (bel0 _) _))
     have hb8 : Below w6.heap.size w6 W8 := by rw [← hW8]; exact belA hb7 _
     have BW8 : Below w.heap.size w W8 := belN BW5 hb8
     have hpx7 : p ≠ px := by omega
     have HW8 := Lib.hid hW8
     have HPx := Lib.hid hpx
     clear hW8 hpx kP7 HIN7 BW7 s7 hb7
     go_upto_region 24 with fail
     try rw [HW8.out]
     try rw [HPx.out]
     clear HW8 HPx
     obtain ⟨c0, c1, c2, c3, c4, c5, c6, c7, c8⟩ := kX.g9
     obtain ⟨q0, q1, q2, q3, q4, q5, q6, q7, q8⟩ := kP8.g9
     obtain ⟨f0, f1, f2, f3, f4, f5, f6, f7, f8⟩ := kP8.f9
     have lP := kP8.lt
     have lX := kX.lt
     go_wp2_with fail
     obtain ⟨w9, h9, hB9, s9, hb9, ho9⟩ := put9n W8 p 28 (.slice XA1 X.rg.length Xc1) (.slice XA2 X.hm.length Xc2) (.slice XA3 X.pd.length Xc3) (.slice XA4 X.dr.length Xc4) (.int .i64 X.sq) (.int .i64 X.bs) (.int .i64 X.sf) (.int .i64 X.at_) (.int .i64 X.df) (.slice BA1 B.rg.length Bc1) (.slice BA2 B.hm.length Bc2) (.slice BA3 B.pd.length Bc3) (.slice BA4 B.dr.length Bc4) (.int .i64 B.sq) (.int .i64 B.bs) (.int .i64 B.sf) (.int .i64 B.at_) (.int .i64 B.df) kP8
     refine foldMet ?_; intro W9 hW9; have hW9' : W9 = w9 := hW9.trans h9; clear hW9; subst hW9'
     clear h9 lP lX q0 q1 q2 q3 q4 q5 q6 q7 q8 c0 c1 c2 c3 c4 c5 c6 c7 c8 f0 f1 f2 f3 f4 f5 f6 f7 f8
     go_meet
     case rel => exact Lib.hid (FkS.arm JX.out SX.out HE.out HO.out hp0 hpW hpg hb8 hlo' hB9 HIN8.out s9 ho9 (hb9 _ _ hp0 BW8))
    have t1 : (m == 1) = false := by simpa using m1
    clear m1
    by_cases m2 : m = 2
    ·have t2 : (m == 2) = true := by rw [m2]; rfl
     clear m2
     have FKo := FK5.out
     obtain ⟨B, was, ops, bs, sf, sq, g, c, vs, rfl, hJ, hS, hX, hE, hO, hp0, hpg, BWx⟩ := FKo
     have HJ := Lib.hid hJ
     have HS := Lib.hid hS
     have HE := Lib.hid hE
     have HO := Lib.hid hO
     obtain ⟨BA1, Bc1, BA2, Bc2, BA3, Bc3, BA4, Bc4, lo, up, kP, hin, hoff⟩ := hX
     have HIN : Hid (InAt (fun w => IsBook w (.agg #[.slice BA1 B.rg.length Bc1, .slice BA2 B.hm.length Bc2, .slice BA3 B.pd.length Bc3, .slice BA4 B.dr.length Bc4, .int .i64 B.sq, .int .i64 B.bs, .int .i64 B.sf, .int .i64 B.at_, .int .i64 B.df]) B) lo up w6) := Lib.hid hin
     have HSZ := Lib.hid (smB_sz hJ.ok hS)
     have HBD := Lib.hid hJ.bd
     have hlen := hJ.len
     have esq := hJ.esq
     have hl : vs.length = was.length := by have := hO.1; omega
     have hbd := hJ.bd.2.2.2.1
     clear hJ hS hin hoff
     obtain ⟨x2, y0, y1, hat⟩ := at_same A n cp bt (by omega) (k + 1) (by omega) w Hr.out
     have Hat : Hid (∀ W, Below w.heap.size w W → Calls Tryz.prog 9 #[.slice A n cp, .int .i64 ((k : Int) + 1)] W fun e w' => e = .returned (.int .i64 x2) ∧ Below W.heap.size W w') := Lib.hid fun W h => (hat W h).mono fun _ _ ⟨h1, h2⟩ => ⟨h1, h2 ▸ bel0 W⟩
     have wk : IntKind.i64.wrap ((k : Int) + 1) = (k : Int) + 1 := by rw [IntKind.wrap_i64]; omega
     clear hat y0
     obtain ⟨X, b1, hX⟩ : ∃ X b1, fallP B x2 = (X, b1) := ⟨_, _, rfl⟩
     obtain ⟨rfl, q, nb, hq1, hq2, hXq, hXd, hJX⟩ := HJ.out.fall hX
     have JX := Lib.hid hJX
     have SX : Hid (SmB X) := Lib.hid (fallP_small HJ.out.ok HS.out hX)
     have HX := Lib.hid hX
     have hesf := HJ.out.esf
     have hesq := HJ.out.esq
     have f1 : ¬ (X.sq < B.sf) := by omega
     have f2 : ¬ (B.sq < X.sq) := by omega
     have g1 : decide (X.sq < B.sf) = false := decide_eq_false f1
     have g2 : decide (B.sq < X.sq) = false := decide_eq_false f2
     have hi0 : (0 : Int) ≤ X.sq := by omega
     have hi1 : X.sq < ((was.length : Nat) : Int) := by omega
     have ht : X.sq.toNat = q := by omega
     have ht1 : (X.sq + 1).toNat = q + 1 := by omega
     have wq : IntKind.i64.wrap (X.sq + 1) = X.sq + 1 := by rw [IntKind.wrap_i64]; omega
     obtain ⟨vk, hvk, hIk⟩ := HE.out.get hl (k := q) (by omega)
     rw [← hXd] at hIk
     obtain ⟨vA, vc, rfl, hRk⟩ := hIk
     have HIk : Hid (IsS w6 (.slice vA X.dr.length vc) X.dr) := Lib.hid ⟨vA, vc, rfl, hRk⟩
     clear hRk
     have cw : w6.cell? ⟨g, q, none⟩ = some (.slice vA X.dr.length vc) := row_cell HO.out hvk
     have hk12 : X.dr.length ≤ 1000000 := by have := dir12 (bk_is JX.out.ok).d; omega
     have hcap : was.length ≤ c := by obtain ⟨_, _, _, h, _⟩ := own_some HO.out; exact h
     have hpW := kP.lt
     have hqn : q + 1 ≤ was.length := by omega
     have hq0 : (0 : Int) ≤ X.sq + 1 := by omega
     have hqc : X.sq + 1 ≤ ((c : Nat) : Int) := by omega
     have Hle := Lib.hid (show (was.take (q + 1)).length = q + 1 by rw [List.length_take]; omega)
     clear hX hJX hE hO esq hl hbd hvk HBD BWx hXq hXd hesf hesq hq1 hq2 hlen
     have Hf1 := Lib.hid (And.intro f1 g1)
     have Hf2 := Lib.hid (And.intro f2 g2)
     clear f1 f2 g1 g2
     go_upto_region 26 with fail
     obtain ⟨g0, hg0⟩ : ∃ g0, g0 = w6.heap.size := ⟨_, rfl⟩
     have hle0 : w.heap.size ≤ g0 := by have := BW5.size; omega
     refine wp_region_held_drew (S := fun w' => w'.cell? ⟨p, 0, none⟩ = some (.slice BA1 B.rg.length Bc1) ∧ w'.cell? ⟨p, 1, none⟩ = some (.slice BA2 B.hm.length Bc2) ∧ w'.cell? ⟨p, 2, none⟩ = some (.slice BA3 B.pd.length Bc3) ∧ w'.cell? ⟨p, 3, none⟩ = some (.slice BA4 B.dr.length Bc4) ∧ w'.cell? ⟨p, 4, none⟩ = some (.int .i64 B.sq) ∧ w'.cell? ⟨p, 5, none⟩ = some (.int .i64 B.bs) ∧ w'.cell? ⟨p, 6, none⟩ = some (.int .i64 B.sf) ∧ w'.cell? ⟨p, 7, none⟩ = some (.int .i64 B.at_) ∧ w'.cell? ⟨p, 8, none⟩ = some (.int .i64 B.df)) (by kernel_rfl) (by exact kP.g9) (fun hHeld => ?_)
     clear hHeld
     refine foldH ?_
     intro r hr0
     have bw : w6.grownBy r (some g0) := by rw [hr0]; exact gb_below (grown_refl _ _) (bel0 w6).drew
     have kP : Blk r p 28 #[.slice BA1 B.rg.length Bc1, .slice BA2 B.hm.length Bc2, .slice BA3 B.pd.length Bc3, .slice BA4 B.dr.length Bc4, .int .i64 B.sq, .int .i64 B.bs, .int .i64 B.sf, .int .i64 B.at_, .int .i64 B.df] := by rw [hr0]; exact kP.drew
     have pI : InAt (fun w => IsBook w (.agg #[.slice BA1 B.rg.length Bc1, .slice BA2 B.hm.length Bc2, .slice BA3 B.pd.length Bc3, .slice BA4 B.dr.length Bc4, .int .i64 B.sq, .int .i64 B.bs, .int .i64 B.sf, .int .i64 B.at_, .int .i64 B.df]) B) lo up r := by rw [hr0]; exact (HIN.out.next (bel0 w6).drew)
     clear hr0
     apply mem4_nnnvw (P := fun aX lo' up' v' q => w6.grownBy q (some g0) ∧ Blk q p 28 #[.slice BA1 B.rg.length Bc1, .slice BA2 B.hm.length Bc2, .slice BA3 B.pd.length Bc3, .slice BA4 B.dr.length Bc4, .int .i64 B.sq, .int .i64 B.bs, .int .i64 B.sf, .int .i64 B.at_, .int .i64 B.df] ∧ Blk q aX 28 zB_ ∧ InAt (fun w => IsBook w (.agg #[.slice BA1 B.rg.length Bc1, .slice BA2 B.hm.length Bc2, .slice BA3 B.pd.length Bc3, .slice BA4 B.dr.length Bc4, .int .i64 B.sq, .int .i64 B.bs, .int .i64 B.sf, .int .i64 B.at_, .int .i64 B.df]) B) lo up q ∧ InAt (OwnBk lo' v' X) lo' up' q ∧ w6.heap.size ≤ lo' ∧ w6.heap.size ≤ aX ∧ (aX < lo' ∨ up' ≤ aX))
     case use =>
      intro key_fk_4_5_9
      apply mem4_nw (P := fun aX q => w6.grownBy q (some g0) ∧ Blk q p 28 #[.slice BA1 B.rg.length Bc1, .slice BA2 B.hm.length Bc2, .slice BA3 B.pd.length Bc3, .slice BA4 B.dr.length Bc4, .int .i64 B.sq, .int .i64 B.bs, .int .i64 B.sf, .int .i64 B.at_, .int .i64 B.df] ∧ Blk q aX 28 zB_ ∧ InAt (fun w => IsBook w (.agg #[.slice BA1 B.rg.length Bc1, .slice BA2 B.hm.length Bc2, .slice BA3 B.pd.length Bc3, .slice BA4 B.dr.length Bc4, .int .i64 B.sq, .int .i64 B.bs, .int .i64 B.sf, .int .i64 B.at_, .int .i64 B.df]) B) lo up q ∧ w6.heap.size ≤ aX)
      case use =>
       intro key_fk_4_9
       apply mem4_nnvw (P := fun lo' up' v' q => w6.grownBy q (some g0) ∧ Blk q p 28 #[.slice BA1 B.rg.length Bc1, .slice BA2 B.hm.length Bc2, .slice BA3 B.pd.length Bc3, .slice BA4 B.dr.length Bc4, .int .i64 B.sq, .int .i64 B.bs, .int .i64 B.sf, .int .i64 B.at_, .int .i64 B.df] ∧ InAt (fun w => IsBook w (.agg #[.slice BA1 B.rg.length Bc1, .slice BA2 B.hm.length Bc2, .slice BA3 B.pd.length Bc3, .slice BA4 B.dr.length Bc4, .int .i64 B.sq, .int .i64 B.bs, .int .i64 B.sf, .int .i64 B.at_, .int .i64 B.df]) B) lo up q ∧ InAt (OwnBk lo' v' X) lo' up' q ∧ w6.heap.size ≤ lo')
       case use =>
        intro key_fk_4_5
        apply mem4_nw (P := fun aX q => w6.grownBy q (some g0) ∧ Blk q p 28 #[.slice BA1 B.rg.length Bc1, .slice BA2 B.hm.length Bc2, .slice BA3 B.pd.length Bc3, .slice BA4 B.dr.length Bc4, .int .i64 B.sq, .int .i64 B.bs, .int .i64 B.sf, .int .i64 B.at_, .int .i64 B.df] ∧ Blk q aX 28 zB_ ∧ InAt (fun w => IsBook w (.agg #[.slice BA1 B.rg.length Bc1, .slice BA2 B.hm.length Bc2, .slice BA3 B.pd.length Bc3, .slice BA4 B.dr.length Bc4, .int .i64 B.sq, .int .i64 B.bs, .int .i64 B.sf, .int .i64 B.at_, .int .i64 B.df]) B) lo up q ∧ w6.heap.size ≤ aX)
        case use =>
         intro key_fk_9
         apply mem4_w (P := fun  q => w6.grownBy q (some g0) ∧ Blk q p 28 #[.slice BA1 B.rg.length Bc1, .slice BA2 B.hm.length Bc2, .slice BA3 B.pd.length Bc3, .slice BA4 B.dr.length Bc4, .int .i64 B.sq, .int .i64 B.bs, .int .i64 B.sf, .int .i64 B.at_, .int .i64 B.df] ∧ InAt (fun w => IsBook w (.agg #[.slice BA1 B.rg.length Bc1, .slice BA2 B.hm.length Bc2, .slice BA3 B.pd.length Bc3, .slice BA4 B.dr.length Bc4, .int .i64 B.sq, .int .i64 B.bs, .int .i64 B.sf, .int .i64 B.at_, .int .i64 B.df]) B) lo up q)
         case use =>
          intro key_fk_4
          refine tkV_ 0 (v := ?v11001) ?hy11001 ?hS11001 ?hr11001
          case hS11001 => exact kP.g9
          case hy11001 => refine Or.inl ⟨by rfl, ?_⟩; intro w hSw; (try dsimp only at hSw); go_simp; (try with_reducible rfl)
          simp only [Act.put, pT_, pZ_, pS_]
          refine tkV_ 1 (v := ?v11002) ?hy11002 ?hS11002 ?hr11002
          case hS11002 => exact kP.g9
          case hy11002 => refine Or.inl ⟨by rfl, ?_⟩; intro w hSw; (try dsimp only at hSw); go_simp; (try with_reducible rfl)
          simp only [Act.put, pT_, pZ_, pS_]
          refine tkV_ 2 (v := ?v11003) ?hy11003 ?hS11003 ?hr11003
          case hS11003 => exact kP.g9
          case hy11003 => refine Or.inl ⟨by rfl, ?_⟩; intro w hSw; (try dsimp only at hSw); go_simp; (try with_reducible rfl)
          simp only [Act.put, pT_, pZ_, pS_]
          refine tkV_ 3 (v := ?v11004) ?hy11004 ?hS11004 ?hr11004
          case hS11004 => exact kP.g9
          case hy11004 => refine Or.inl ⟨by rfl, ?_⟩; intro w hSw; (try dsimp only at hSw); go_simp; (try with_reducible rfl)
          simp only [Act.put, pT_, pZ_, pS_]
          refine wpAnyH_ready (rs := [4, 9]) (by kernel_rfl) (by simp) ?_
          refine AllReadyH.cons (o := ?oi11005) ?hi11005 (fun K hK => ?br11005) (AllReadyH.cons (o := ?oi11006) ?hi11006 (fun K hK => ?br11006) AllReadyH.nil)
          case hi11005 => (conv => lhs; simp only [gT_, gZ_, gS_]); try exact rfl
          case hi11006 => (conv => lhs; simp only [gT_, gZ_, gS_]); try exact rfl
          case br11005 =>
           go_simp
           go_at_call 9
           refine (Hat.out _ (belG BW5 bw hle0)).mono ?_
           rintro e q ⟨rfl, hb⟩
           have bw2 := gb_below bw hb
           have kP2 := kP.below hb kP.lt
           have pI2 : InAt (fun w => IsBook w (.agg #[.slice BA1 B.rg.length Bc1, .slice BA2 B.hm.length Bc2, .slice BA3 B.pd.length Bc3, .slice BA4 B.dr.length Bc4, .int .i64 B.sq, .int .i64 B.bs, .int .i64 B.sf, .int .i64 B.at_, .int .i64 B.df]) B) lo up q := pI.next hb
           refine hK.out _ _ (by exact kP2.g9) (fun _ => ?_)
           clear hK K
           try simp only [Act.put, pT_, pZ_, pS_]
           exact key_fk_4  q ⟨bw2, kP2, pI2⟩
          case br11006 =>
           go_simp
           refine hK.out _ _ (by exact (kP.alloc (.cells zB_ 28)).g9) (fun _ => ?_)
           clear hK K
           try simp only [Act.put, pT_, pZ_, pS_]
           refine foldH ?_
           intro q hq
           obtain ⟨aX, ha⟩ : ∃ g, r.heap.size = g := ⟨_, rfl⟩
           rw [ha]
           have bw2 : w6.grownBy q (some g0) := by rw [hq]; exact gb_below bw (belA (bel0 r) (.cells zB_ 28))
           have kP2 : Blk q _ _ _ := hq ▸ kP.alloc (.cells zB_ 28)
           have pI2 : InAt (fun w => IsBook w (.agg #[.slice BA1 B.rg.length Bc1, .slice BA2 B.hm.length Bc2, .slice BA3 B.pd.length Bc3, .slice BA4 B.dr.length Bc4, .int .i64 B.sq, .int .i64 B.bs, .int .i64 B.sf, .int .i64 B.at_, .int .i64 B.df]) B) lo up q := by rw [hq]; exact pI.next (belA (bel0 _) _)
           have kX2 : Blk q aX 28 zB_ := by rw [hq, ← ha]; exact Blk.new' _ _ _ _ rfl
           have laX : w6.heap.size ≤ aX := by rw [← ha]; exact bw.size
           exact key_fk_9 aX q ⟨bw2, kP2, kX2, pI2, laX⟩
         case key =>
          rintro  r ⟨bw, kP, pI⟩
          try dsimp only
          refine wpAnyH_ready (rs := [5, 9]) (by kernel_rfl) (by simp) ?_
          refine AllReadyH.cons (o := ?oi11007) ?hi11007 (fun K hK => ?br11007) (AllReadyH.cons (o := ?oi11008) ?hi11008 (fun K hK => ?br11008) AllReadyH.nil)
          case hi11007 => (conv => lhs; simp only [gT_, gZ_, gS_]); try exact rfl
          case hi11008 => (conv => lhs; simp only [gT_, gZ_, gS_]); try exact rfl
          case br11007 =>
           go_simp
           go_at_call 12
           refine (fall_impl _ B HSZ.out x2 (by omega) HX.out _ (HT.out.bl (belG BW5 bw hle0)) pI.is).mono ?_
           rintro e q ⟨v', lo', up', rfl, hlo0, hinF, hb⟩
           have bw2 := gb_below bw hb
           have kP2 := kP.below hb kP.lt
           have pI2 : InAt (fun w => IsBook w (.agg #[.slice BA1 B.rg.length Bc1, .slice BA2 B.hm.length Bc2, .slice BA3 B.pd.length Bc3, .slice BA4 B.dr.length Bc4, .int .i64 B.sq, .int .i64 B.bs, .int .i64 B.sf, .int .i64 B.at_, .int .i64 B.df]) B) lo up q := pI.next hb
           have pN2 := hinF
           have hlo1 : w6.heap.size ≤ lo' := by have := bw.size; omega
           refine hK.out _ _ (by exact kP2.g9) (fun _ => ?_)
           clear hK K
           try simp only [Act.put, pT_, pZ_, pS_]
           refine tkV_ 6 (v := ?v11009) ?hy11009 ?hS11009 ?hr11009
           case hS11009 => exact kP2.g9
           case hy11009 => refine Or.inl ⟨by rfl, ?_⟩; intro w hSw; (try dsimp only at hSw); go_simp; (try with_reducible rfl)
           simp only [Act.put, pT_, pZ_, pS_]
           refine tkV_ 7 (v := ?v11010) ?hy11010 ?hS11010 ?hr11010
           case hS11010 => exact kP2.g9
           case hy11010 => refine Or.inl ⟨by rfl, ?_⟩; intro w hSw; (try dsimp only at hSw); go_simp; (try with_reducible rfl)
           simp only [Act.put, pT_, pZ_, pS_]
           refine tkV_ 8 (v := ?v11011) ?hy11011 ?hS11011 ?hr11011
           case hS11011 => exact kP2.g9
           case hy11011 => refine Or.inl ⟨by rfl, ?_⟩; intro w hSw; (try dsimp only at hSw); go_simp; (try with_reducible rfl)
           simp only [Act.put, pT_, pZ_, pS_]
           exact key_fk_4_5 lo' up' v' q ⟨bw2, kP2, pI2, pN2, hlo1⟩
          case br11008 =>
           go_simp
           refine hK.out _ _ (by exact (kP.alloc (.cells zB_ 28)).g9) (fun _ => ?_)
           clear hK K
           try simp only [Act.put, pT_, pZ_, pS_]
           refine foldH ?_
           intro q hq
           obtain ⟨aX, ha⟩ : ∃ g, r.heap.size = g := ⟨_, rfl⟩
           rw [ha]
           have bw2 : w6.grownBy q (some g0) := by rw [hq]; exact gb_below bw (belA (bel0 r) (.cells zB_ 28))
           have kP2 : Blk q _ _ _ := hq ▸ kP.alloc (.cells zB_ 28)
           have pI2 : InAt (fun w => IsBook w (.agg #[.slice BA1 B.rg.length Bc1, .slice BA2 B.hm.length Bc2, .slice BA3 B.pd.length Bc3, .slice BA4 B.dr.length Bc4, .int .i64 B.sq, .int .i64 B.bs, .int .i64 B.sf, .int .i64 B.at_, .int .i64 B.df]) B) lo up q := by rw [hq]; exact pI.next (belA (bel0 _) _)
           have kX2 : Blk q aX 28 zB_ := by rw [hq, ← ha]; exact Blk.new' _ _ _ _ rfl
           have laX : w6.heap.size ≤ aX := by rw [← ha]; exact bw.size
           exact key_fk_4_9 aX q ⟨bw2, kP2, kX2, pI2, laX⟩
        case key =>
         rintro aX r ⟨bw, kP, kX, pI, laX⟩
         try dsimp only
         refine wpAnyH_ready (rs := [4]) (by kernel_rfl) (by simp) ?_
         refine AllReadyH.cons (o := ?oi11012) ?hi11012 (fun K hK => ?br11012) AllReadyH.nil
         case hi11012 => (conv => lhs; simp only [gT_, gZ_, gS_]); try exact rfl
         case br11012 =>
          go_simp
          go_at_call 9
          refine (Hat.out _ (belG BW5 bw hle0)).mono ?_
          rintro e q ⟨rfl, hb⟩
          have bw2 := gb_below bw hb
          have kP2 := kP.below hb kP.lt
          have kX2 := kX.below hb kX.lt
          have pI2 : InAt (fun w => IsBook w (.agg #[.slice BA1 B.rg.length Bc1, .slice BA2 B.hm.length Bc2, .slice BA3 B.pd.length Bc3, .slice BA4 B.dr.length Bc4, .int .i64 B.sq, .int .i64 B.bs, .int .i64 B.sf, .int .i64 B.at_, .int .i64 B.df]) B) lo up q := pI.next hb
          refine hK.out _ _ (by exact kP2.g9) (fun _ => ?_)
          clear hK K
          try simp only [Act.put, pT_, pZ_, pS_]
          exact key_fk_4_9 aX q ⟨bw2, kP2, kX2, pI2, laX⟩
       case key =>
        rintro lo' up' v' r ⟨bw, kP, pI, pN, hlo1⟩
        try dsimp only
        refine wpAnyH_ready (rs := [9]) (by kernel_rfl) (by simp) ?_
        refine AllReadyH.cons (o := ?oi11013) ?hi11013 (fun K hK => ?br11013) AllReadyH.nil
        case hi11013 => (conv => lhs; simp only [gT_, gZ_, gS_]); try exact rfl
        case br11013 =>
         go_simp
         refine hK.out _ _ (by exact (kP.alloc (.cells zB_ 28)).g9) (fun _ => ?_)
         clear hK K
         try simp only [Act.put, pT_, pZ_, pS_]
         refine foldH ?_
         intro q hq
         obtain ⟨aX, ha⟩ : ∃ g, r.heap.size = g := ⟨_, rfl⟩
         rw [ha]
         have bw2 : w6.grownBy q (some g0) := by rw [hq]; exact gb_below bw (belA (bel0 r) (.cells zB_ 28))
         have kP2 : Blk q _ _ _ := hq ▸ kP.alloc (.cells zB_ 28)
         have pI2 : InAt (fun w => IsBook w (.agg #[.slice BA1 B.rg.length Bc1, .slice BA2 B.hm.length Bc2, .slice BA3 B.pd.length Bc3, .slice BA4 B.dr.length Bc4, .int .i64 B.sq, .int .i64 B.bs, .int .i64 B.sf, .int .i64 B.at_, .int .i64 B.df]) B) lo up q := by rw [hq]; exact pI.next (belA (bel0 _) _)
         have pN2 : InAt (OwnBk lo' v' X) lo' up' q := by rw [hq]; exact pN.next (belA (bel0 _) _)
         have kX2 : Blk q aX 28 zB_ := by rw [hq, ← ha]; exact Blk.new' _ _ _ _ rfl
         have laX : w6.heap.size ≤ aX := by rw [← ha]; exact bw.size
         have sep : aX < lo' ∨ up' ≤ aX := .inr (by have := pN.1; omega)
         exact key_fk_4_5_9 aX lo' up' v' q ⟨bw2, kP2, kX2, pI2, pN2, hlo1, laX, sep⟩
      case key =>
       rintro aX r ⟨bw, kP, kX, pI, laX⟩
       try dsimp only
       refine wpAnyH_ready (rs := [5]) (by kernel_rfl) (by simp) ?_
       refine AllReadyH.cons (o := ?oi11014) ?hi11014 (fun K hK => ?br11014) AllReadyH.nil
       case hi11014 => (conv => lhs; simp only [gT_, gZ_, gS_]); try exact rfl
       case br11014 =>
        go_simp
        go_at_call 12
        refine (fall_impl _ B HSZ.out x2 (by omega) HX.out _ (HT.out.bl (belG BW5 bw hle0)) pI.is).mono ?_
        rintro e q ⟨v', lo', up', rfl, hlo0, hinF, hb⟩
        have bw2 := gb_below bw hb
        have kP2 := kP.below hb kP.lt
        have kX2 := kX.below hb kX.lt
        have pI2 : InAt (fun w => IsBook w (.agg #[.slice BA1 B.rg.length Bc1, .slice BA2 B.hm.length Bc2, .slice BA3 B.pd.length Bc3, .slice BA4 B.dr.length Bc4, .int .i64 B.sq, .int .i64 B.bs, .int .i64 B.sf, .int .i64 B.at_, .int .i64 B.df]) B) lo up q := pI.next hb
        have pN2 := hinF
        have hlo1 : w6.heap.size ≤ lo' := by have := bw.size; omega
        have sep : aX < lo' ∨ up' ≤ aX := .inl (by have := kX.lt; omega)
        refine hK.out _ _ (by exact kP2.g9) (fun _ => ?_)
        clear hK K
        try simp only [Act.put, pT_, pZ_, pS_]
        refine tkV_ 6 (v := ?v11015) ?hy11015 ?hS11015 ?hr11015
        case hS11015 => exact kP2.g9
        case hy11015 => refine Or.inl ⟨by rfl, ?_⟩; intro w hSw; (try dsimp only at hSw); go_simp; (try with_reducible rfl)
        simp only [Act.put, pT_, pZ_, pS_]
        refine tkV_ 7 (v := ?v11016) ?hy11016 ?hS11016 ?hr11016
        case hS11016 => exact kP2.g9
        case hy11016 => refine Or.inl ⟨by rfl, ?_⟩; intro w hSw; (try dsimp only at hSw); go_simp; (try with_reducible rfl)
        simp only [Act.put, pT_, pZ_, pS_]
        refine tkV_ 8 (v := ?v11017) ?hy11017 ?hS11017 ?hr11017
        case hS11017 => exact kP2.g9
        case hy11017 => refine Or.inl ⟨by rfl, ?_⟩; intro w hSw; (try dsimp only at hSw); go_simp; (try with_reducible rfl)
        simp only [Act.put, pT_, pZ_, pS_]
        exact key_fk_4_5_9 aX lo' up' v' q ⟨bw2, kP2, kX2, pI2, pN2, hlo1, laX, sep⟩
     case key =>
      rintro aX lo' up' v' r ⟨bw, kP, kX, pI, pN, hlo1, laX, sep⟩
      try dsimp only
      refine wpAnyH_ready (rs := [10]) (by kernel_rfl) (by simp) ?_
      refine AllReadyH.cons (o := ?oi11018) ?hi11018 (fun K hK => ?br11018) AllReadyH.nil
      case hi11018 => (conv => lhs; simp only [gT_, gZ_, gS_]); try exact rfl
      case br11018 =>
       obtain ⟨XA1, Xc1, XA2, Xc2, XA3, Xc3, XA4, Xc4, hv, _⟩ := pN.is.isBk
       subst hv
       have HN : Hid (InAt (fun w => IsBook w (.agg #[.slice XA1 X.rg.length Xc1, .slice XA2 X.hm.length Xc2, .slice XA3 X.pd.length Xc3, .slice XA4 X.dr.length Xc4, .int .i64 X.sq, .int .i64 X.bs, .int .i64 X.sf, .int .i64 X.at_, .int .i64 X.df]) X) lo' up' r) := Lib.hid (pN.map fun _ h => h.isBk)
       clear pN pI
       have x_0 := kX.get (x := .slice none 0 0) 0 rfl
       have x_1 := kX.get (x := .slice none 0 0) 1 rfl
       have x_2 := kX.get (x := .slice none 0 0) 2 rfl
       have x_3 := kX.get (x := .slice none 0 0) 3 rfl
       have x_4 := kX.get (x := .int .i64 0) 4 rfl
       have x_5 := kX.get (x := .int .i64 0) 5 rfl
       have x_6 := kX.get (x := .int .i64 0) 6 rfl
       have x_7 := kX.get (x := .int .i64 0) 7 rfl
       have x_8 := kX.get (x := .int .i64 0) 8 rfl
       obtain ⟨f_0, f_1, f_2, f_3, f_4, f_5, f_6, f_7, f_8⟩ := kX.f9
       have lE := kX.lt
       have zr := bw.size
       have lP := kP.lt
       obtain ⟨w9, h9, hB9, s9, hb9, ho9⟩ := put9n r aX 28 (.slice XA1 X.rg.length Xc1) (.slice XA2 X.hm.length Xc2) (.slice XA3 X.pd.length Xc3) (.slice XA4 X.dr.length Xc4) (.int .i64 X.sq) (.int .i64 X.bs) (.int .i64 X.sf) (.int .i64 X.at_) (.int .i64 X.df) (.slice none 0 0) (.slice none 0 0) (.slice none 0 0) (.slice none 0 0) (.int .i64 0) (.int .i64 0) (.int .i64 0) (.int .i64 0) (.int .i64 0) kX
       have P9 := kP.eqN (ho9 _ (by omega))
       have b9 : Below w6.heap.size w6 w9 := hb9 _ _ laX (belG (bel0 w6) bw (by omega))
       have HN9 : Hid (InAt (fun w => IsBook w (.agg #[.slice XA1 X.rg.length Xc1, .slice XA2 X.hm.length Xc2, .slice XA3 X.pd.length Xc3, .slice XA4 X.dr.length Xc4, .int .i64 X.sq, .int .i64 X.bs, .int .i64 X.sf, .int .i64 X.at_, .int .i64 X.df]) X) lo' up' w9) := Lib.hid (HN.out.keepL (by omega) fun i h1 h2 => ho9 i (by rcases sep with h | h <;> omega))
       go_simp
       refine hK.out _ _ (by first | exact P9.g9 | (rw [h9]; exact P9.g9)) (fun _ => ?_)
       clear hK K
       try simp only [Act.put, pT_, pZ_, pS_]
       try rw [h9]
       clear h9 hb9 ho9 lE HN kP kX bw x_0 x_1 x_2 x_3 x_4 x_5 x_6 x_7 x_8 f_0 f_1 f_2 f_3 f_4 f_5 f_6 f_7 f_8
       refine tkV_ 11 (v := ?v11019) ?hy11019 ?hS11019 ?hr11019
       case hS11019 => exact P9.g9
       case hy11019 => refine Or.inl ⟨by rfl, ?_⟩; intro w hSw; (try dsimp only at hSw); go_simp; (try with_reducible rfl)
       simp only [Act.put, pT_, pZ_, pS_]
       refine wpAnyH_done (by kernel_rfl) ?_ _
       clear t0 t1 t2
       have BW9 := belN BW5 b9
       have HIk9 : Hid (IsS w9 (.slice vA X.dr.length vc) X.dr) := Lib.hid (HIk.out.next b9)
       have cw9 := keep1 b9 cw
       clear cw HIk kP
       obtain ⟨c0, c1, c2, c3, c4, c5, c6, c7, c8⟩ := hB9.g9
       obtain ⟨d0, d1, d2, d3, d4, d5, d6, d7, d8⟩ := hB9.f9
       obtain ⟨q0, q1, q2, q3, q4, q5, q6, q7, q8⟩ := P9.g9
       obtain ⟨f0, f1, f2, f3, f4, f5, f6, f7, f8⟩ := P9.f9
       have lP9 := P9.lt
       have lX9 := hB9.lt
       have ff1 := Hf1.out.1
       have gg1 := Hf1.out.2
       have ff2 := Hf2.out.1
       have gg2 := Hf2.out.2
       go_wp2_with fail
       go_region_held3 (fun w' => w'.cell? ⟨aX, 3, none⟩ = some (.slice XA4 X.dr.length Xc4) ∧ w'.cell? ⟨aX, 4, none⟩ = some (.int .i64 X.sq) ∧ w'.cell? ⟨p, 4, none⟩ = some (.int .i64 B.sq) ∧ w'.cell? ⟨p, 6, none⟩ = some (.int .i64 B.sf) ∧ w'.cell? ⟨g, q, none⟩ = some (.slice vA X.dr.length vc)) (first | go_keep | (refine ⟨keep1 hb12 ?_, keep1 hb12 ?_, keep1 hb12 ?_, keep1 hb12 ?_, keep1 hb12 ?_⟩ <;> go_keep)) (first | (go_at_call 13; refine (sameDir_self _ _ X.dr hk12 _ ((bk_dir HN9.out.is).next ((bel0 w9).drew)) (HIk9.out.next ((bel0 w9).drew))).mono ?_; rintro e w12 ⟨rfl, hb12⟩))
       have hbq : Below w9.heap.size w9 w12 := (bel0 w9).drew.trans hb12
       clear hb12 cw9 HIk9 ff1 gg1 ff2 gg2 lP9 lX9 c0 c1 c2 c3 c4 c5 c6 c7 c8 d0 d1 d2 d3 d4 d5 d6 d7 d8 q0 q1 q2 q3 q4 q5 q6 q7 q8 f0 f1 f2 f3 f4 f5 f6 f7 f8
       have P12 := P9.below hbq P9.lt
       have X12 := hB9.below hbq hB9.lt
       have b12 : Below w6.heap.size w6 w12 := belN b9 hbq
       have HN12 : Hid (InAt (fun w => IsBook w (.agg #[.slice XA1 X.rg.length Xc1, .slice XA2 X.hm.length Xc2, .slice XA3 X.pd.length Xc3, .slice XA4 X.dr.length Xc4, .int .i64 X.sq, .int .i64 X.bs, .int .i64 X.sf, .int .i64 X.at_, .int .i64 X.df]) X) lo' up' w12) := Lib.hid (HN9.out.next hbq)
       have BW12 := belN BW9 hbq
       clear P9 hB9 HN9 BW9 hbq
       obtain ⟨c0, c1, c2, c3, c4, c5, c6, c7, c8⟩ := X12.g9
       obtain ⟨q0, q1, q2, q3, q4, q5, q6, q7, q8⟩ := P12.g9
       obtain ⟨f0, f1, f2, f3, f4, f5, f6, f7, f8⟩ := P12.f9
       have lP := P12.lt
       have lX := X12.lt
       go_upto_region 30 with fail
       obtain ⟨w13, h13, hB13, s13, hb13, ho13⟩ := put9n w12 p 28 (.slice XA1 X.rg.length Xc1) (.slice XA2 X.hm.length Xc2) (.slice XA3 X.pd.length Xc3) (.slice XA4 X.dr.length Xc4) (.int .i64 X.sq) (.int .i64 X.bs) (.int .i64 X.sf) (.int .i64 X.at_) (.int .i64 X.df) (.slice BA1 B.rg.length Bc1) (.slice BA2 B.hm.length Bc2) (.slice BA3 B.pd.length Bc3) (.slice BA4 B.dr.length Bc4) (.int .i64 B.sq) (.int .i64 B.bs) (.int .i64 B.sf) (.int .i64 B.at_) (.int .i64 B.df) P12
       first | rw [h13] | simp only [h13]
       clear h13 lP lX q0 q1 q2 q3 q4 q5 q6 q7 q8 c0 c1 c2 c3 c4 c5 c6 c7 c8 f0 f1 f2 f3 f4 f5 f6 f7 f8
       have FKe : Hid (FkS w p (.slice (some ⟨g, 0, none⟩) (q + 1) c) w13) := Lib.hid (by have h := FkS.arm (was := was.take (q + 1)) (vs := vs.take (q + 1)) JX.out SX.out (HE.out.cut (q + 1)) (by rw [Hle.out]; exact own_pre HO.out (q + 1) hqn) hp0 hpW hpg b12 (by omega) hB13 HN12.out s13 ho13 (hb13 _ _ hp0 BW12); rw [Hle.out] at h; exact h)
       obtain ⟨q0, q1, q2, q3, q4, q5, q6, q7, q8⟩ := hB13.g9
       have lP := hB13.lt
       go_wp2_with fail
       try rw [ht1]
       go_meet
       case rel => exact FKe
    have t2 : (m == 2) = false := by simpa using m2
    clear m2
    have FKo := FK5.out
    obtain ⟨B, was, ops, bs, sf, sq, g, c, vs, rfl, hJ, hS, hX, hE, hO, hp0, hpg, BWx⟩ := FKo
    have HJ := Lib.hid hJ
    have HS := Lib.hid hS
    have HE := Lib.hid hE
    have HO := Lib.hid hO
    obtain ⟨BA1, Bc1, BA2, Bc2, BA3, Bc3, BA4, Bc4, lo, up, kP, hin, hoff⟩ := hX
    have HIN : Hid (InAt (fun w => IsBook w (.agg #[.slice BA1 B.rg.length Bc1, .slice BA2 B.hm.length Bc2, .slice BA3 B.pd.length Bc3, .slice BA4 B.dr.length Bc4, .int .i64 B.sq, .int .i64 B.bs, .int .i64 B.sf, .int .i64 B.at_, .int .i64 B.df]) B) lo up w6) := Lib.hid hin
    have HSZ := Lib.hid (smB_sz hJ.ok hS)
    have HBD := Lib.hid hJ.bd
    have hlen := hJ.len
    have esq := hJ.esq
    have hl : vs.length = was.length := by have := hO.1; omega
    have hbd := hJ.bd.2.2.2.1
    clear hJ hS hin hoff
    obtain ⟨L, fits, hD⟩ : ∃ L fits, doP B.dr kd s i = (L, fits) := ⟨_, _, rfl⟩
    have HD := Lib.hid hD
    obtain ⟨X, is, hX⟩ : ∃ X is, doBk B kd s i = (X, is) := ⟨_, _, rfl⟩
    have SX : Hid (SmB X) := Lib.hid (doBk_small HJ.out.ok HS.out hX)
    have hcases := HJ.out.chgd hX
    have HX := Lib.hid hX
    have hk20 : B.dr.length ≤ 12 := dir12 (bk_is HJ.out.ok).d
    have szd : szS B.dr ≤ 1048576 := by have := HSZ.out; unfold szBk at this; omega
    have hpW := kP.lt
    have hcap : was.length ≤ 1000001 := by omega
    have wq : IntKind.i64.wrap (B.sq + 1) = B.sq + 1 := by rw [IntKind.wrap_i64]; omega
    clear hX hD hE hO BWx HBD
    rcases hcases with ⟨rfl, hXB⟩ | ⟨rfl, hfit, hdr, hsq, hJ2⟩
    ·skip
     have JX : Hid (JB X was ops bs sf sq) := Lib.hid (by rw [hXB]; exact HJ.out)
     have Hdd := Lib.hid (show B.dr = X.dr by rw [hXB])
     have hk12 : X.dr.length ≤ 1000000 := by rw [← Hdd.out]; omega
     clear hXB esq hl hbd hlen
     obtain ⟨q0, q1, q2, q3, q4, q5, q6, q7, q8⟩ := kP.g9
     obtain ⟨k0, k1, k2⟩ := kO.g3
     have lP := kP.lt
     have lO := kO.lt
     go_wp2_with fail
     clear t0 t1 t2
     refine (bookDo_impl _ B HSZ.out kd s i (by omega) HX.out w6 (HT.out.bl BW5) HIN.out.is).mono ?_
     rintro e w7 ⟨v', lo', up', rfl, hlo', hin', hb7⟩
     have kO7 := kO.below hb7 kO.lt
     clear k0 k1 k2 lO
     clear lP q0 q1 q2 q3 q4 q5 q6 q7 q8
     have kP7 := kP.below hb7 kP.lt
     have BW7 := belN BW5 hb7
     have s7 := hb7.size
     obtain ⟨XA1, Xc1, XA2, Xc2, XA3, Xc3, XA4, Xc4, hv, _⟩ := hin'.is.isBk
     subst hv
     have HIN7 : Hid (InAt (fun w => IsBook w (.agg #[.slice XA1 X.rg.length Xc1, .slice XA2 X.hm.length Xc2, .slice XA3 X.pd.length Xc3, .slice XA4 X.dr.length Xc4, .int .i64 X.sq, .int .i64 X.bs, .int .i64 X.sf, .int .i64 X.at_, .int .i64 X.df]) X) lo' up' w7) := Lib.hid (hin'.map fun _ h => h.isBk)
     clear hin'
     obtain ⟨px, hpx⟩ : ∃ q, w7.heap.size = q := ⟨_, rfl⟩
     obtain ⟨W8, hW8⟩ : ∃ W, w7.alloc (.cells #[.slice XA1 X.rg.length Xc1, .slice XA2 X.hm.length Xc2, .slice XA3 X.pd.length Xc3, .slice XA4 X.dr.length Xc4, .int .i64 X.sq, .int .i64 X.bs, .int .i64 X.sf, .int .i64 X.at_, .int .i64 X.df] 28) = W := ⟨_, rfl⟩
     have kX : Blk W8 px 28 #[.slice XA1 X.rg.length Xc1, .slice XA2 X.hm.length Xc2, .slice XA3 X.pd.length Xc3, .slice XA4 X.dr.length Xc4, .int .i64 X.sq, .int .i64 X.bs, .int .i64 X.sf, .int .i64 X.at_, .int .i64 X.df] := by rw [← hW8, ← hpx]; exact Blk.new' _ _ _ _ rfl
     have kP8 : Blk W8 p 28 #[.slice BA1 B.rg.length Bc1, .slice BA2 B.hm.length Bc2, .slice BA3 B.pd.length Bc3, .slice BA4 B.dr.length Bc4, .int .i64 B.sq, .int .i64 B.bs, .int .i64 B.sf, .int .i64 B.at_, .int .i64 B.df] := by rw [← hW8]; exact kP7.alloc _
     have HIN8 : Hid (InAt (fun w => IsBook w (.agg #[.slice XA1 X.rg.length Xc1, .slice XA2 X.hm.length Xc2, .slice XA3 X.pd.length Xc3, .slice XA4 X.dr.length Xc4, .int .i64 X.sq, .int .i64 X.bs, .int .i64 X.sf, .int .i64 X.at_, .int .i64 X.df]) X) lo' up' W8) := Lib.hid (by rw [← hW8]; exact HIN7.out.next (belA (bel0 _) _))
     have hb8 : Below w6.heap.size w6 W8 := by rw [← hW8]; exact belA hb7 _
     have BW8 : Below w.heap.size w W8 := belN BW5 hb8
     have hpx7 : p ≠ px := by omega
     have HW8 := Lib.hid hW8
     have HPx := Lib.hid hpx
     clear hW8 hpx kP7 HIN7 BW7 s7 hb7
     have kO8 : Blk W8 po 32 #[.int .i64 kd, .string s, .int .i64 i] := by rw [← HW8.out]; exact kO7.alloc _
     clear kO7
     go_upto_region 11 with fail
     try rw [HW8.out]
     try rw [HPx.out]
     clear HW8 HPx kO
     obtain ⟨c0, c1, c2, c3, c4, c5, c6, c7, c8⟩ := kX.g9
     obtain ⟨q0, q1, q2, q3, q4, q5, q6, q7, q8⟩ := kP8.g9
     obtain ⟨k0, k1, k2⟩ := kO8.g3
     have lP := kP8.lt
     have lX := kX.lt
     have lO := kO8.lt
     have HIN6 : Hid (InAt (fun w => IsBook w (.agg #[.slice BA1 B.rg.length Bc1, .slice BA2 B.hm.length Bc2, .slice BA3 B.pd.length Bc3, .slice BA4 B.dr.length Bc4, .int .i64 B.sq, .int .i64 B.bs, .int .i64 B.sf, .int .i64 B.at_, .int .i64 B.df]) B) lo up W8) := Lib.hid (HIN.out.next hb8)
     go_wp2_with fail
     refine (opDo_spec _ B.dr szd kd s i (by omega) HD.out W8 (bk_dir HIN6.out.is)).mono ?_
     rintro e w10 ⟨vO, loO, upO, rfl, hloO, hinO, hb10⟩
     clear lP lX lO c0 c1 c2 c3 c4 c5 c6 c7 c8 q0 q1 q2 q3 q4 q5 q6 q7 q8 k0 k1 k2
     have kX10 := kX.below hb10 kX.lt
     have kP10 := kP8.below hb10 kP8.lt
     have HX10 : Hid (InAt (fun w => IsBook w (.agg #[.slice XA1 X.rg.length Xc1, .slice XA2 X.hm.length Xc2, .slice XA3 X.pd.length Xc3, .slice XA4 X.dr.length Xc4, .int .i64 X.sq, .int .i64 X.bs, .int .i64 X.sf, .int .i64 X.at_, .int .i64 X.df]) X) lo' up' w10) := Lib.hid (HIN8.out.next hb10)
     have HB10 : Hid (InAt (fun w => IsBook w (.agg #[.slice BA1 B.rg.length Bc1, .slice BA2 B.hm.length Bc2, .slice BA3 B.pd.length Bc3, .slice BA4 B.dr.length Bc4, .int .i64 B.sq, .int .i64 B.bs, .int .i64 B.sf, .int .i64 B.at_, .int .i64 B.df]) B) lo up w10) := Lib.hid (HIN6.out.next hb10)
     have b10 : Below w6.heap.size w6 w10 := belN hb8 hb10
     have BW10 := belN BW8 hb10
     have hinO2 : InAt (fun w => IsS w vO L) loO upO w10 := hinO.map fun _ h => h.isS
     obtain ⟨vA, vc, rfl, _⟩ := hinO2.is
     have HO10 : Hid (InAt (fun w => IsS w (.slice vA L.length vc) L) loO upO w10) := Lib.hid hinO2
     clear hinO hinO2
     have s10 := hb10.size
     have hloO6 : W8.heap.size ≤ loO := hloO
     have h86 := hb8.size
     clear kX kP8 kO8 HIN8 HIN6 hb8 BW8 hb10 hloO
     obtain ⟨c0, c1, c2, c3, c4, c5, c6, c7, c8⟩ := kX10.g9
     obtain ⟨q0, q1, q2, q3, q4, q5, q6, q7, q8⟩ := kP10.g9
     obtain ⟨f0, f1, f2, f3, f4, f5, f6, f7, f8⟩ := kP10.f9
     have lP := kP10.lt
     have lX := kX10.lt
     go_wp2_with fail
     refine (sameDir_self _ _ X.dr hk12 _ (bk_dir HX10.out.is) (by rw [← Hdd.out]; exact bk_dir HB10.out.is)).mono ?_
     rintro e w11 ⟨rfl, hb11⟩
     clear lP lX c0 c1 c2 c3 c4 c5 c6 c7 c8 q0 q1 q2 q3 q4 q5 q6 q7 q8 f0 f1 f2 f3 f4 f5 f6 f7 f8
     have kX11 := kX10.below hb11 kX10.lt
     have kP11 := kP10.below hb11 kP10.lt
     have HX11 : Hid (InAt (fun w => IsBook w (.agg #[.slice XA1 X.rg.length Xc1, .slice XA2 X.hm.length Xc2, .slice XA3 X.pd.length Xc3, .slice XA4 X.dr.length Xc4, .int .i64 X.sq, .int .i64 X.bs, .int .i64 X.sf, .int .i64 X.at_, .int .i64 X.df]) X) lo' up' w11) := Lib.hid (HX10.out.next hb11)
     have HO11 : Hid (InAt (fun w => IsS w (.slice vA L.length vc) L) loO upO w11) := Lib.hid (HO10.out.next hb11)
     have b11 : Below w6.heap.size w6 w11 := belN b10 hb11
     have BW11 := belN BW10 hb11
     have s11 := hb11.size
     clear kX10 kP10 HX10 HB10 HO10 b10 BW10 hb11
     obtain ⟨c0, c1, c2, c3, c4, c5, c6, c7, c8⟩ := kX11.g9
     obtain ⟨q0, q1, q2, q3, q4, q5, q6, q7, q8⟩ := kP11.g9
     obtain ⟨f0, f1, f2, f3, f4, f5, f6, f7, f8⟩ := kP11.f9
     have lP := kP11.lt
     have lX := kX11.lt
     go_wp2_with fail
     obtain ⟨w13, h13, hB13, s13, hb13, ho13⟩ := put9n w11 p 28 (.slice XA1 X.rg.length Xc1) (.slice XA2 X.hm.length Xc2) (.slice XA3 X.pd.length Xc3) (.slice XA4 X.dr.length Xc4) (.int .i64 X.sq) (.int .i64 X.bs) (.int .i64 X.sf) (.int .i64 X.at_) (.int .i64 X.df) (.slice BA1 B.rg.length Bc1) (.slice BA2 B.hm.length Bc2) (.slice BA3 B.pd.length Bc3) (.slice BA4 B.dr.length Bc4) (.int .i64 B.sq) (.int .i64 B.bs) (.int .i64 B.sf) (.int .i64 B.at_) (.int .i64 B.df) kP11
     refine foldMet ?_; intro W9 hW9; have hW9' : W9 = w13 := hW9.trans h13; clear hW9; subst hW9'
     clear h13 lP lX q0 q1 q2 q3 q4 q5 q6 q7 q8 c0 c1 c2 c3 c4 c5 c6 c7 c8 f0 f1 f2 f3 f4 f5 f6 f7 f8
     go_meet
     case rel => exact Lib.hid (FkS.arm JX.out SX.out HE.out HO.out hp0 hpW hpg b11 hlo' hB13 HX11.out s13 ho13 (hb13 _ _ hp0 BW11))
    ·skip
     have hf : fits = true := by have h := HD.out; rw [h] at hfit; exact hfit
     subst hf
     have HdL := Lib.hid (show X.dr = L by have h := HD.out; rw [h] at hdr; exact hdr)
     have JX : Hid (JB X (was ++ [L]) (fun j => if j = sq then (kd, s, i) else ops j) bs sf (sq + 1)) := Lib.hid (by have h := HD.out; rw [h] at hJ2; exact hJ2)
     have hk12 : X.dr.length ≤ 1000000 := by have := dir12 (bk_is JX.out.ok).d; omega
     have e1 : (X.sq != B.sq + 1) = false := by rw [hsq, bne_self_eq_false]
     clear hJ2 hfit hdr hsq esq hl hbd hlen
     obtain ⟨q0, q1, q2, q3, q4, q5, q6, q7, q8⟩ := kP.g9
     obtain ⟨k0, k1, k2⟩ := kO.g3
     have lP := kP.lt
     have lO := kO.lt
     go_wp2_with fail
     clear t0 t1 t2
     refine (bookDo_impl _ B HSZ.out kd s i (by omega) HX.out w6 (HT.out.bl BW5) HIN.out.is).mono ?_
     rintro e w7 ⟨v', lo', up', rfl, hlo', hin', hb7⟩
     have kO7 := kO.below hb7 kO.lt
     clear k0 k1 k2 lO
     clear lP q0 q1 q2 q3 q4 q5 q6 q7 q8
     have kP7 := kP.below hb7 kP.lt
     have BW7 := belN BW5 hb7
     have s7 := hb7.size
     obtain ⟨XA1, Xc1, XA2, Xc2, XA3, Xc3, XA4, Xc4, hv, _⟩ := hin'.is.isBk
     subst hv
     have HIN7 : Hid (InAt (fun w => IsBook w (.agg #[.slice XA1 X.rg.length Xc1, .slice XA2 X.hm.length Xc2, .slice XA3 X.pd.length Xc3, .slice XA4 X.dr.length Xc4, .int .i64 X.sq, .int .i64 X.bs, .int .i64 X.sf, .int .i64 X.at_, .int .i64 X.df]) X) lo' up' w7) := Lib.hid (hin'.map fun _ h => h.isBk)
     clear hin'
     obtain ⟨px, hpx⟩ : ∃ q, w7.heap.size = q := ⟨_, rfl⟩
     obtain ⟨W8, hW8⟩ : ∃ W, w7.alloc (.cells #[.slice XA1 X.rg.length Xc1, .slice XA2 X.hm.length Xc2, .slice XA3 X.pd.length Xc3, .slice XA4 X.dr.length Xc4, .int .i64 X.sq, .int .i64 X.bs, .int .i64 X.sf, .int .i64 X.at_, .int .i64 X.df] 28) = W := ⟨_, rfl⟩
     have kX : Blk W8 px 28 #[.slice XA1 X.rg.length Xc1, .slice XA2 X.hm.length Xc2, .slice XA3 X.pd.length Xc3, .slice XA4 X.dr.length Xc4, .int .i64 X.sq, .int .i64 X.bs, .int .i64 X.sf, .int .i64 X.at_, .int .i64 X.df] := by rw [← hW8, ← hpx]; exact Blk.new' _ _ _ _ rfl
     have kP8 : Blk W8 p 28 #[.slice BA1 B.rg.length Bc1, .slice BA2 B.hm.length Bc2, .slice BA3 B.pd.length Bc3, .slice BA4 B.dr.length Bc4, .int .i64 B.sq, .int .i64 B.bs, .int .i64 B.sf, .int .i64 B.at_, .int .i64 B.df] := by rw [← hW8]; exact kP7.alloc _
     have HIN8 : Hid (InAt (fun w => IsBook w (.agg #[.slice XA1 X.rg.length Xc1, .slice XA2 X.hm.length Xc2, .slice XA3 X.pd.length Xc3, .slice XA4 X.dr.length Xc4, .int .i64 X.sq, .int .i64 X.bs, .int .i64 X.sf, .int .i64 X.at_, .int .i64 X.df]) X) lo' up' W8) := Lib.hid (by rw [← hW8]; exact HIN7.out.next (belA (bel0 _) _))
     have hb8 : Below w6.heap.size w6 W8 := by rw [← hW8]; exact belA hb7 _
     have BW8 : Below w.heap.size w W8 := belN BW5 hb8
     have hpx7 : p ≠ px := by omega
     have HW8 := Lib.hid hW8
     have HPx := Lib.hid hpx
     clear hW8 hpx kP7 HIN7 BW7 s7 hb7
     have kO8 : Blk W8 po 32 #[.int .i64 kd, .string s, .int .i64 i] := by rw [← HW8.out]; exact kO7.alloc _
     clear kO7
     go_upto_region 11 with fail
     try rw [HW8.out]
     try rw [HPx.out]
     clear HW8 HPx kO
     obtain ⟨c0, c1, c2, c3, c4, c5, c6, c7, c8⟩ := kX.g9
     obtain ⟨q0, q1, q2, q3, q4, q5, q6, q7, q8⟩ := kP8.g9
     obtain ⟨k0, k1, k2⟩ := kO8.g3
     have lP := kP8.lt
     have lX := kX.lt
     have lO := kO8.lt
     have HIN6 : Hid (InAt (fun w => IsBook w (.agg #[.slice BA1 B.rg.length Bc1, .slice BA2 B.hm.length Bc2, .slice BA3 B.pd.length Bc3, .slice BA4 B.dr.length Bc4, .int .i64 B.sq, .int .i64 B.bs, .int .i64 B.sf, .int .i64 B.at_, .int .i64 B.df]) B) lo up W8) := Lib.hid (HIN.out.next hb8)
     go_wp2_with fail
     refine (opDo_spec _ B.dr szd kd s i (by omega) HD.out W8 (bk_dir HIN6.out.is)).mono ?_
     rintro e w10 ⟨vO, loO, upO, rfl, hloO, hinO, hb10⟩
     clear lP lX lO c0 c1 c2 c3 c4 c5 c6 c7 c8 q0 q1 q2 q3 q4 q5 q6 q7 q8 k0 k1 k2
     have kX10 := kX.below hb10 kX.lt
     have kP10 := kP8.below hb10 kP8.lt
     have HX10 : Hid (InAt (fun w => IsBook w (.agg #[.slice XA1 X.rg.length Xc1, .slice XA2 X.hm.length Xc2, .slice XA3 X.pd.length Xc3, .slice XA4 X.dr.length Xc4, .int .i64 X.sq, .int .i64 X.bs, .int .i64 X.sf, .int .i64 X.at_, .int .i64 X.df]) X) lo' up' w10) := Lib.hid (HIN8.out.next hb10)
     have HB10 : Hid (InAt (fun w => IsBook w (.agg #[.slice BA1 B.rg.length Bc1, .slice BA2 B.hm.length Bc2, .slice BA3 B.pd.length Bc3, .slice BA4 B.dr.length Bc4, .int .i64 B.sq, .int .i64 B.bs, .int .i64 B.sf, .int .i64 B.at_, .int .i64 B.df]) B) lo up w10) := Lib.hid (HIN6.out.next hb10)
     have b10 : Below w6.heap.size w6 w10 := belN hb8 hb10
     have BW10 := belN BW8 hb10
     have hinO2 : InAt (fun w => IsS w vO L) loO upO w10 := hinO.map fun _ h => h.isS
     obtain ⟨vA, vc, rfl, _⟩ := hinO2.is
     have HO10 : Hid (InAt (fun w => IsS w (.slice vA L.length vc) L) loO upO w10) := Lib.hid hinO2
     clear hinO hinO2
     have s10 := hb10.size
     have hloO6 : W8.heap.size ≤ loO := hloO
     have h86 := hb8.size
     clear kX kP8 kO8 HIN8 HIN6 hb8 BW8 hb10 hloO
     obtain ⟨c0, c1, c2, c3, c4, c5, c6, c7, c8⟩ := kX10.g9
     obtain ⟨q0, q1, q2, q3, q4, q5, q6, q7, q8⟩ := kP10.g9
     obtain ⟨f0, f1, f2, f3, f4, f5, f6, f7, f8⟩ := kP10.f9
     have lP := kP10.lt
     have lX := kX10.lt
     go_wp2_with fail
     refine (sameDir_self _ _ X.dr hk12 _ (bk_dir HX10.out.is) (by rw [HdL.out]; exact HO10.out.is)).mono ?_
     rintro e w11 ⟨rfl, hb11⟩
     clear lP lX c0 c1 c2 c3 c4 c5 c6 c7 c8 q0 q1 q2 q3 q4 q5 q6 q7 q8 f0 f1 f2 f3 f4 f5 f6 f7 f8
     have kX11 := kX10.below hb11 kX10.lt
     have kP11 := kP10.below hb11 kP10.lt
     have HX11 : Hid (InAt (fun w => IsBook w (.agg #[.slice XA1 X.rg.length Xc1, .slice XA2 X.hm.length Xc2, .slice XA3 X.pd.length Xc3, .slice XA4 X.dr.length Xc4, .int .i64 X.sq, .int .i64 X.bs, .int .i64 X.sf, .int .i64 X.at_, .int .i64 X.df]) X) lo' up' w11) := Lib.hid (HX10.out.next hb11)
     have HO11 : Hid (InAt (fun w => IsS w (.slice vA L.length vc) L) loO upO w11) := Lib.hid (HO10.out.next hb11)
     have b11 : Below w6.heap.size w6 w11 := belN b10 hb11
     have BW11 := belN BW10 hb11
     have s11 := hb11.size
     clear kX10 kP10 HX10 HB10 HO10 b10 BW10 hb11
     obtain ⟨c0, c1, c2, c3, c4, c5, c6, c7, c8⟩ := kX11.g9
     obtain ⟨q0, q1, q2, q3, q4, q5, q6, q7, q8⟩ := kP11.g9
     obtain ⟨f0, f1, f2, f3, f4, f5, f6, f7, f8⟩ := kP11.f9
     have lP := kP11.lt
     have lX := kX11.lt
     go_upto_region 15 with fail
     obtain ⟨w13, h13, hB13, s13, hb13, ho13⟩ := put9n w11 p 28 (.slice XA1 X.rg.length Xc1) (.slice XA2 X.hm.length Xc2) (.slice XA3 X.pd.length Xc3) (.slice XA4 X.dr.length Xc4) (.int .i64 X.sq) (.int .i64 X.bs) (.int .i64 X.sf) (.int .i64 X.at_) (.int .i64 X.df) (.slice BA1 B.rg.length Bc1) (.slice BA2 B.hm.length Bc2) (.slice BA3 B.pd.length Bc3) (.slice BA4 B.dr.length Bc4) (.int .i64 B.sq) (.int .i64 B.bs) (.int .i64 B.sf) (.int .i64 B.at_) (.int .i64 B.df) kP11
     first | rw [h13] | simp only [h13]
     clear h13 lP lX q0 q1 q2 q3 q4 q5 q6 q7 q8 c0 c1 c2 c3 c4 c5 c6 c7 c8 f0 f1 f2 f3 f4 f5 f6 f7 f8
     have hgW : g < w6.heap.size := (Tryz.ownG HO.out).1
     have HE13 : Hid (WasE p g vs was w13) := Lib.hid ((HE.out.below b11).keep (by omega) fun i _ h2 _ => ho13 i h2)
     have Own13 : Hid (w13.ownsRow w.heap.size 26 1 (.slice (some ⟨g, 0, none⟩) was.length c) was.length vs) := Lib.hid (own_eqN (own_keepB HO.out b11) fun k hk => ho13 k (by have hgk : g = k := (by simpa [Value.ownBlock] using hk); omega))
     have HX13 : Hid (BoxB p g X w13) := Lib.hid (BoxB.put hB13 HX11.out (by omega) (by omega) s13 ho13)
     have HO13 : Hid (InAt (fun w => IsS w (.slice vA L.length vc) L) loO upO w13) := Lib.hid (HO11.out.keepL (by omega) fun i h1 h2 => ho13 i (by omega))
     have BW13 := hb13 _ _ hp0 BW11
     have hbw13 := BW13.size
     clear HE HO hB13 HX11 HO11 kX11 kP11 b11 BW11 hb13 ho13 s13
     go_wp2_with (at_builtin; go_must (refine wpList_app _ rfl _ _ _ rfl Tryz.el_dr (Own13.out.alloc _) rfl (reads_new _ _ _ _ 1 (by rfl)) rfl (by simp [Value.oneCell']) (max_small (by omega)) (by omega) (by simp; omega) ?_); intro v1 w1 own1 hg1 hc1 hb1)
     go_meet
     case rel => exact Lib.hid (FkS.app (u := .slice vA L.length vc) JX.out SX.out HX13.out HE13.out Own13.out hp0 hpg HO13.out (by omega) (by omega) own1 hg1 hc1 ((belA BW13 _).trans hb1))
  ·skip
   have hk1 : ¬ ((k : Int) < 40) := by omega
   have hk2 : k = 40 := by omega
   have FKo := FK.out
   obtain ⟨B, was, ops, bs, sf, sq, g, c, vs, rfl, hJ, hS, hX, hE, hO, hp0, hpg, BWx⟩ := FKo
   have HJ := Lib.hid hJ
   have HS := Lib.hid hS
   have HE := Lib.hid hE
   have HO := Lib.hid hO
   obtain ⟨BA1, Bc1, BA2, Bc2, BA3, Bc3, BA4, Bc4, lo, up, kP, hin, hoff⟩ := hX
   have HIN : Hid (InAt (fun w => IsBook w (.agg #[.slice BA1 B.rg.length Bc1, .slice BA2 B.hm.length Bc2, .slice BA3 B.pd.length Bc3, .slice BA4 B.dr.length Bc4, .int .i64 B.sq, .int .i64 B.bs, .int .i64 B.sf, .int .i64 B.at_, .int .i64 B.df]) B) lo up wr) := Lib.hid hin
   have HSZ := Lib.hid (smB_sz hJ.ok hS)
   have HBD := Lib.hid hJ.bd
   have hlen := hJ.len
   have esq := hJ.esq
   have hl : vs.length = was.length := by have := hO.1; omega
   have hbd := hJ.bd.2.2.2.1
   clear hJ hS hin hoff
   have BW5 := BWx
   obtain ⟨x2, y0, y1, hat⟩ := at_same A n cp bt (by omega) 0 (by omega) w Hr.out
   have Hat : Hid (∀ W, Below w.heap.size w W → Calls Tryz.prog 9 #[.slice A n cp, .int .i64 0] W fun e w' => e = .returned (.int .i64 x2) ∧ Below W.heap.size W w') := Lib.hid fun W h => (hat W h).mono fun _ _ ⟨h1, h2⟩ => ⟨h1, h2 ▸ bel0 W⟩
   clear hat y0
   obtain ⟨X, b1, hX⟩ : ∃ X b1, flushP B = (X, b1) := ⟨_, _, rfl⟩
   have hXb : b1 = true ∧ X = flB B := by rw [flush_yes HJ.out.ok] at hX; injection hX with h1 h2; exact ⟨h2.symm, h1.symm⟩
   obtain ⟨rfl, hXe⟩ := hXb
   have JX : Hid (JB X was ops (if B.df = 0 then bs else sf) sq sq) := Lib.hid (by rw [hXe]; exact HJ.out.flush)
   have SX : Hid (SmB X) := Lib.hid (by rw [hXe]; exact flB_small HJ.out.ok HS.out)
   have HX := Lib.hid hX
   clear hX hXe
   obtain ⟨Y, b2, hY⟩ : ∃ Y b2, fallP X x2 = (Y, b2) := ⟨_, _, rfl⟩
   obtain ⟨rfl, q, nb, hq1, hq2, hYq, hYd, hJY⟩ := JX.out.fall hY
   have hqs : q = sq := by omega
   subst hqs
   have Hdd := Lib.hid (show B.dr = Y.dr by rw [hYd]; exact HJ.out.cur.symm)
   have e2 : (Y.sq == B.sq) = true := by rw [hYq, esq]; exact beq_self_eq_true _
   have hk12 : Y.dr.length ≤ 1000000 := by have := dir12 (bk_is hJY.ok).d; omega
   have HY := Lib.hid hY
   have SZX := Lib.hid (smB_sz JX.out.ok SX.out)
   clear hY hJY hYd hYq hq1 hq2 hE hO esq hl hbd hlen HBD HE HO HS hpg hk2
   obtain ⟨q0, q1, q2, q3, q4, q5, q6, q7, q8⟩ := kP.g9
   have lP := kP.lt
   have hpW := kP.lt
   go_wp2_with fail
   refine (bookFlush_impl _ B HSZ.out HX.out wr (HT.out.bl BW5) HIN.out.is).mono ?_
   rintro e w7 ⟨v', lo', up', rfl, hlo', hin', hb7⟩
   have HINr : Hid (InAt (fun w => IsBook w (.agg #[.slice BA1 B.rg.length Bc1, .slice BA2 B.hm.length Bc2, .slice BA3 B.pd.length Bc3, .slice BA4 B.dr.length Bc4, .int .i64 B.sq, .int .i64 B.bs, .int .i64 B.sf, .int .i64 B.at_, .int .i64 B.df]) B) lo up w7) := Lib.hid (HIN.out.next hb7)
   clear lP q0 q1 q2 q3 q4 q5 q6 q7 q8
   have kP7 := kP.below hb7 kP.lt
   have BW7 := belN BW5 hb7
   have s7 := hb7.size
   obtain ⟨XA1, Xc1, XA2, Xc2, XA3, Xc3, XA4, Xc4, hv, _⟩ := hin'.is.isBk
   subst hv
   have HIN7 : Hid (InAt (fun w => IsBook w (.agg #[.slice XA1 X.rg.length Xc1, .slice XA2 X.hm.length Xc2, .slice XA3 X.pd.length Xc3, .slice XA4 X.dr.length Xc4, .int .i64 X.sq, .int .i64 X.bs, .int .i64 X.sf, .int .i64 X.at_, .int .i64 X.df]) X) lo' up' w7) := Lib.hid (hin'.map fun _ h => h.isBk)
   clear hin'
   obtain ⟨px, hpx⟩ : ∃ q, w7.heap.size = q := ⟨_, rfl⟩
   obtain ⟨W8, hW8⟩ : ∃ W, w7.alloc (.cells #[.slice XA1 X.rg.length Xc1, .slice XA2 X.hm.length Xc2, .slice XA3 X.pd.length Xc3, .slice XA4 X.dr.length Xc4, .int .i64 X.sq, .int .i64 X.bs, .int .i64 X.sf, .int .i64 X.at_, .int .i64 X.df] 28) = W := ⟨_, rfl⟩
   have kX : Blk W8 px 28 #[.slice XA1 X.rg.length Xc1, .slice XA2 X.hm.length Xc2, .slice XA3 X.pd.length Xc3, .slice XA4 X.dr.length Xc4, .int .i64 X.sq, .int .i64 X.bs, .int .i64 X.sf, .int .i64 X.at_, .int .i64 X.df] := by rw [← hW8, ← hpx]; exact Blk.new' _ _ _ _ rfl
   have kP8 : Blk W8 p 28 #[.slice BA1 B.rg.length Bc1, .slice BA2 B.hm.length Bc2, .slice BA3 B.pd.length Bc3, .slice BA4 B.dr.length Bc4, .int .i64 B.sq, .int .i64 B.bs, .int .i64 B.sf, .int .i64 B.at_, .int .i64 B.df] := by rw [← hW8]; exact kP7.alloc _
   have HIN8 : Hid (InAt (fun w => IsBook w (.agg #[.slice XA1 X.rg.length Xc1, .slice XA2 X.hm.length Xc2, .slice XA3 X.pd.length Xc3, .slice XA4 X.dr.length Xc4, .int .i64 X.sq, .int .i64 X.bs, .int .i64 X.sf, .int .i64 X.at_, .int .i64 X.df]) X) lo' up' W8) := Lib.hid (by rw [← hW8]; exact HIN7.out.next (belA (bel0 _) _))
   have hb8 : Below wr.heap.size wr W8 := by rw [← hW8]; exact belA hb7 _
   have BW8 : Below w.heap.size w W8 := belN BW5 hb8
   have hpx7 : p ≠ px := by omega
   have HW8 := Lib.hid hW8
   have HPx := Lib.hid hpx
   clear hW8 hpx kP7 HIN7 BW7 s7 hb7
   have HB8 : Hid (InAt (fun w => IsBook w (.agg #[.slice BA1 B.rg.length Bc1, .slice BA2 B.hm.length Bc2, .slice BA3 B.pd.length Bc3, .slice BA4 B.dr.length Bc4, .int .i64 B.sq, .int .i64 B.bs, .int .i64 B.sf, .int .i64 B.at_, .int .i64 B.df]) B) lo up W8) := Lib.hid (HIN.out.next hb8)
   go_upto_region 34 with fail
   try rw [HW8.out]
   try rw [HPx.out]
   clear HW8 HPx HIN HINr
   have lP := kP8.lt
   have lX := kX.lt
   obtain ⟨g0, hg0⟩ : ∃ g0, g0 = W8.heap.size := ⟨_, rfl⟩
   have hle0 : w.heap.size ≤ g0 := by have := BW8.size; omega
   refine wp_region_held_drew (S := fun w' => w'.cell? ⟨px, 0, none⟩ = some (.slice XA1 X.rg.length Xc1) ∧ w'.cell? ⟨px, 1, none⟩ = some (.slice XA2 X.hm.length Xc2) ∧ w'.cell? ⟨px, 2, none⟩ = some (.slice XA3 X.pd.length Xc3) ∧ w'.cell? ⟨px, 3, none⟩ = some (.slice XA4 X.dr.length Xc4) ∧ w'.cell? ⟨px, 4, none⟩ = some (.int .i64 X.sq) ∧ w'.cell? ⟨px, 5, none⟩ = some (.int .i64 X.bs) ∧ w'.cell? ⟨px, 6, none⟩ = some (.int .i64 X.sf) ∧ w'.cell? ⟨px, 7, none⟩ = some (.int .i64 X.at_) ∧ w'.cell? ⟨px, 8, none⟩ = some (.int .i64 X.df)) (by kernel_rfl) (by exact kX.g9) (fun hHeld => ?_)
   clear hHeld
   refine foldH ?_
   intro r hr0
   have bw : W8.grownBy r (some g0) := by rw [hr0]; exact gb_below (grown_refl _ _) (bel0 W8).drew
   have kP : Blk r p 28 #[.slice BA1 B.rg.length Bc1, .slice BA2 B.hm.length Bc2, .slice BA3 B.pd.length Bc3, .slice BA4 B.dr.length Bc4, .int .i64 B.sq, .int .i64 B.bs, .int .i64 B.sf, .int .i64 B.at_, .int .i64 B.df] := by rw [hr0]; exact kP8.drew
   have kQ : Blk r px 28 #[.slice XA1 X.rg.length Xc1, .slice XA2 X.hm.length Xc2, .slice XA3 X.pd.length Xc3, .slice XA4 X.dr.length Xc4, .int .i64 X.sq, .int .i64 X.bs, .int .i64 X.sf, .int .i64 X.at_, .int .i64 X.df] := by rw [hr0]; exact kX.drew
   have pI : InAt (fun w => IsBook w (.agg #[.slice XA1 X.rg.length Xc1, .slice XA2 X.hm.length Xc2, .slice XA3 X.pd.length Xc3, .slice XA4 X.dr.length Xc4, .int .i64 X.sq, .int .i64 X.bs, .int .i64 X.sf, .int .i64 X.at_, .int .i64 X.df]) X) lo' up' r := by rw [hr0]; exact (HIN8.out.next (bel0 W8).drew)
   clear hr0
   apply mem4_nnnvw (P := fun aX lo2 up2 v2 q => W8.grownBy q (some g0) ∧ Blk q p 28 #[.slice BA1 B.rg.length Bc1, .slice BA2 B.hm.length Bc2, .slice BA3 B.pd.length Bc3, .slice BA4 B.dr.length Bc4, .int .i64 B.sq, .int .i64 B.bs, .int .i64 B.sf, .int .i64 B.at_, .int .i64 B.df] ∧ Blk q px 28 #[.slice XA1 X.rg.length Xc1, .slice XA2 X.hm.length Xc2, .slice XA3 X.pd.length Xc3, .slice XA4 X.dr.length Xc4, .int .i64 X.sq, .int .i64 X.bs, .int .i64 X.sf, .int .i64 X.at_, .int .i64 X.df] ∧ Blk q aX 28 zB_ ∧ InAt (fun w => IsBook w (.agg #[.slice XA1 X.rg.length Xc1, .slice XA2 X.hm.length Xc2, .slice XA3 X.pd.length Xc3, .slice XA4 X.dr.length Xc4, .int .i64 X.sq, .int .i64 X.bs, .int .i64 X.sf, .int .i64 X.at_, .int .i64 X.df]) X) lo' up' q ∧ InAt (OwnBk lo2 v2 Y) lo2 up2 q ∧ W8.heap.size ≤ lo2 ∧ W8.heap.size ≤ aX ∧ (aX < lo2 ∨ up2 ≤ aX))
   case use =>
    intro key_fz_2_3_7
    apply mem4_nw (P := fun aX q => W8.grownBy q (some g0) ∧ Blk q p 28 #[.slice BA1 B.rg.length Bc1, .slice BA2 B.hm.length Bc2, .slice BA3 B.pd.length Bc3, .slice BA4 B.dr.length Bc4, .int .i64 B.sq, .int .i64 B.bs, .int .i64 B.sf, .int .i64 B.at_, .int .i64 B.df] ∧ Blk q px 28 #[.slice XA1 X.rg.length Xc1, .slice XA2 X.hm.length Xc2, .slice XA3 X.pd.length Xc3, .slice XA4 X.dr.length Xc4, .int .i64 X.sq, .int .i64 X.bs, .int .i64 X.sf, .int .i64 X.at_, .int .i64 X.df] ∧ Blk q aX 28 zB_ ∧ InAt (fun w => IsBook w (.agg #[.slice XA1 X.rg.length Xc1, .slice XA2 X.hm.length Xc2, .slice XA3 X.pd.length Xc3, .slice XA4 X.dr.length Xc4, .int .i64 X.sq, .int .i64 X.bs, .int .i64 X.sf, .int .i64 X.at_, .int .i64 X.df]) X) lo' up' q ∧ W8.heap.size ≤ aX)
    case use =>
     intro key_fz_2_7
     apply mem4_nnvw (P := fun lo2 up2 v2 q => W8.grownBy q (some g0) ∧ Blk q p 28 #[.slice BA1 B.rg.length Bc1, .slice BA2 B.hm.length Bc2, .slice BA3 B.pd.length Bc3, .slice BA4 B.dr.length Bc4, .int .i64 B.sq, .int .i64 B.bs, .int .i64 B.sf, .int .i64 B.at_, .int .i64 B.df] ∧ Blk q px 28 #[.slice XA1 X.rg.length Xc1, .slice XA2 X.hm.length Xc2, .slice XA3 X.pd.length Xc3, .slice XA4 X.dr.length Xc4, .int .i64 X.sq, .int .i64 X.bs, .int .i64 X.sf, .int .i64 X.at_, .int .i64 X.df] ∧ InAt (fun w => IsBook w (.agg #[.slice XA1 X.rg.length Xc1, .slice XA2 X.hm.length Xc2, .slice XA3 X.pd.length Xc3, .slice XA4 X.dr.length Xc4, .int .i64 X.sq, .int .i64 X.bs, .int .i64 X.sf, .int .i64 X.at_, .int .i64 X.df]) X) lo' up' q ∧ InAt (OwnBk lo2 v2 Y) lo2 up2 q ∧ W8.heap.size ≤ lo2)
     case use =>
      intro key_fz_2_3
      apply mem4_nw (P := fun aX q => W8.grownBy q (some g0) ∧ Blk q p 28 #[.slice BA1 B.rg.length Bc1, .slice BA2 B.hm.length Bc2, .slice BA3 B.pd.length Bc3, .slice BA4 B.dr.length Bc4, .int .i64 B.sq, .int .i64 B.bs, .int .i64 B.sf, .int .i64 B.at_, .int .i64 B.df] ∧ Blk q px 28 #[.slice XA1 X.rg.length Xc1, .slice XA2 X.hm.length Xc2, .slice XA3 X.pd.length Xc3, .slice XA4 X.dr.length Xc4, .int .i64 X.sq, .int .i64 X.bs, .int .i64 X.sf, .int .i64 X.at_, .int .i64 X.df] ∧ Blk q aX 28 zB_ ∧ InAt (fun w => IsBook w (.agg #[.slice XA1 X.rg.length Xc1, .slice XA2 X.hm.length Xc2, .slice XA3 X.pd.length Xc3, .slice XA4 X.dr.length Xc4, .int .i64 X.sq, .int .i64 X.bs, .int .i64 X.sf, .int .i64 X.at_, .int .i64 X.df]) X) lo' up' q ∧ W8.heap.size ≤ aX)
      case use =>
       intro key_fz_7
       apply mem4_w (P := fun  q => W8.grownBy q (some g0) ∧ Blk q p 28 #[.slice BA1 B.rg.length Bc1, .slice BA2 B.hm.length Bc2, .slice BA3 B.pd.length Bc3, .slice BA4 B.dr.length Bc4, .int .i64 B.sq, .int .i64 B.bs, .int .i64 B.sf, .int .i64 B.at_, .int .i64 B.df] ∧ Blk q px 28 #[.slice XA1 X.rg.length Xc1, .slice XA2 X.hm.length Xc2, .slice XA3 X.pd.length Xc3, .slice XA4 X.dr.length Xc4, .int .i64 X.sq, .int .i64 X.bs, .int .i64 X.sf, .int .i64 X.at_, .int .i64 X.df] ∧ InAt (fun w => IsBook w (.agg #[.slice XA1 X.rg.length Xc1, .slice XA2 X.hm.length Xc2, .slice XA3 X.pd.length Xc3, .slice XA4 X.dr.length Xc4, .int .i64 X.sq, .int .i64 X.bs, .int .i64 X.sf, .int .i64 X.at_, .int .i64 X.df]) X) lo' up' q)
       case use =>
        intro key_fz_2
        refine tkV_ 0 (v := ?v12001) ?hy12001 ?hS12001 ?hr12001
        case hS12001 => exact kQ.g9
        case hy12001 => refine Or.inl ⟨by rfl, ?_⟩; intro w hSw; (try dsimp only at hSw); go_simp; (try with_reducible rfl)
        simp only [Act.put, pT_, pZ_, pS_]
        refine tkV_ 1 (v := ?v12002) ?hy12002 ?hS12002 ?hr12002
        case hS12002 => exact kQ.g9
        case hy12002 => refine Or.inl ⟨by rfl, ?_⟩; intro w hSw; (try dsimp only at hSw); go_simp; (try with_reducible rfl)
        simp only [Act.put, pT_, pZ_, pS_]
        refine wpAnyH_ready (rs := [2, 7]) (by kernel_rfl) (by simp) ?_
        refine AllReadyH.cons (o := ?oi12003) ?hi12003 (fun K hK => ?br12003) (AllReadyH.cons (o := ?oi12004) ?hi12004 (fun K hK => ?br12004) AllReadyH.nil)
        case hi12003 => (conv => lhs; simp only [gT_, gZ_, gS_]); try exact rfl
        case hi12004 => (conv => lhs; simp only [gT_, gZ_, gS_]); try exact rfl
        case br12003 =>
         go_simp
         go_at_call 9
         refine (Hat.out _ (belG BW8 bw hle0)).mono ?_
         rintro e q ⟨rfl, hb⟩
         have bw2 := gb_below bw hb
         have kP2 := kP.below hb kP.lt
         have kQ2 := kQ.below hb kQ.lt
         have pI2 : InAt (fun w => IsBook w (.agg #[.slice XA1 X.rg.length Xc1, .slice XA2 X.hm.length Xc2, .slice XA3 X.pd.length Xc3, .slice XA4 X.dr.length Xc4, .int .i64 X.sq, .int .i64 X.bs, .int .i64 X.sf, .int .i64 X.at_, .int .i64 X.df]) X) lo' up' q := pI.next hb
         refine hK.out _ _ (by exact kQ2.g9) (fun _ => ?_)
         clear hK K
         try simp only [Act.put, pT_, pZ_, pS_]
         exact key_fz_2  q ⟨bw2, kP2, kQ2, pI2⟩
        case br12004 =>
         go_simp
         refine hK.out _ _ (by exact (kQ.alloc (.cells zB_ 28)).g9) (fun _ => ?_)
         clear hK K
         try simp only [Act.put, pT_, pZ_, pS_]
         refine foldH ?_
         intro q hq
         obtain ⟨aX, ha⟩ : ∃ g, r.heap.size = g := ⟨_, rfl⟩
         rw [ha]
         have bw2 : W8.grownBy q (some g0) := by rw [hq]; exact gb_below bw (belA (bel0 r) (.cells zB_ 28))
         have kP2 : Blk q _ _ _ := hq ▸ kP.alloc (.cells zB_ 28)
         have kQ2 : Blk q _ _ _ := hq ▸ kQ.alloc (.cells zB_ 28)
         have pI2 : InAt (fun w => IsBook w (.agg #[.slice XA1 X.rg.length Xc1, .slice XA2 X.hm.length Xc2, .slice XA3 X.pd.length Xc3, .slice XA4 X.dr.length Xc4, .int .i64 X.sq, .int .i64 X.bs, .int .i64 X.sf, .int .i64 X.at_, .int .i64 X.df]) X) lo' up' q := by rw [hq]; exact pI.next (belA (bel0 _) _)
         have kX2 : Blk q aX 28 zB_ := by rw [hq, ← ha]; exact Blk.new' _ _ _ _ rfl
         have laX : W8.heap.size ≤ aX := by rw [← ha]; exact bw.size
         exact key_fz_7 aX q ⟨bw2, kP2, kQ2, kX2, pI2, laX⟩
       case key =>
        rintro  r ⟨bw, kP, kQ, pI⟩
        try dsimp only
        refine wpAnyH_ready (rs := [3, 7]) (by kernel_rfl) (by simp) ?_
        refine AllReadyH.cons (o := ?oi12005) ?hi12005 (fun K hK => ?br12005) (AllReadyH.cons (o := ?oi12006) ?hi12006 (fun K hK => ?br12006) AllReadyH.nil)
        case hi12005 => (conv => lhs; simp only [gT_, gZ_, gS_]); try exact rfl
        case hi12006 => (conv => lhs; simp only [gT_, gZ_, gS_]); try exact rfl
        case br12005 =>
         go_simp
         go_at_call 12
         refine (fall_impl _ X SZX.out x2 (by omega) HY.out _ (HT.out.bl (belG BW8 bw hle0)) pI.is).mono ?_
         rintro e q ⟨v2, lo2, up2, rfl, hlo0, hinF, hb⟩
         have bw2 := gb_below bw hb
         have kP2 := kP.below hb kP.lt
         have kQ2 := kQ.below hb kQ.lt
         have pI2 : InAt (fun w => IsBook w (.agg #[.slice XA1 X.rg.length Xc1, .slice XA2 X.hm.length Xc2, .slice XA3 X.pd.length Xc3, .slice XA4 X.dr.length Xc4, .int .i64 X.sq, .int .i64 X.bs, .int .i64 X.sf, .int .i64 X.at_, .int .i64 X.df]) X) lo' up' q := pI.next hb
         have pN2 := hinF
         have hlo1 : W8.heap.size ≤ lo2 := by have := bw.size; omega
         refine hK.out _ _ (by exact kQ2.g9) (fun _ => ?_)
         clear hK K
         try simp only [Act.put, pT_, pZ_, pS_]
         refine tkV_ 4 (v := ?v12007) ?hy12007 ?hS12007 ?hr12007
         case hS12007 => exact kQ2.g9
         case hy12007 => refine Or.inl ⟨by rfl, ?_⟩; intro w hSw; (try dsimp only at hSw); go_simp; (try with_reducible rfl)
         simp only [Act.put, pT_, pZ_, pS_]
         refine tkV_ 5 (v := ?v12008) ?hy12008 ?hS12008 ?hr12008
         case hS12008 => exact kQ2.g9
         case hy12008 => refine Or.inl ⟨by rfl, ?_⟩; intro w hSw; (try dsimp only at hSw); go_simp; (try with_reducible rfl)
         simp only [Act.put, pT_, pZ_, pS_]
         refine tkV_ 6 (v := ?v12009) ?hy12009 ?hS12009 ?hr12009
         case hS12009 => exact kQ2.g9
         case hy12009 => refine Or.inl ⟨by rfl, ?_⟩; intro w hSw; (try dsimp only at hSw); go_simp; (try with_reducible rfl)
         simp only [Act.put, pT_, pZ_, pS_]
         exact key_fz_2_3 lo2 up2 v2 q ⟨bw2, kP2, kQ2, pI2, pN2, hlo1⟩
        case br12006 =>
         go_simp
         refine hK.out _ _ (by exact (kQ.alloc (.cells zB_ 28)).g9) (fun _ => ?_)
         clear hK K
         try simp only [Act.put, pT_, pZ_, pS_]
         refine foldH ?_
         intro q hq
         obtain ⟨aX, ha⟩ : ∃ g, r.heap.size = g := ⟨_, rfl⟩
         rw [ha]
         have bw2 : W8.grownBy q (some g0) := by rw [hq]; exact gb_below bw (belA (bel0 r) (.cells zB_ 28))
         have kP2 : Blk q _ _ _ := hq ▸ kP.alloc (.cells zB_ 28)
         have kQ2 : Blk q _ _ _ := hq ▸ kQ.alloc (.cells zB_ 28)
         have pI2 : InAt (fun w => IsBook w (.agg #[.slice XA1 X.rg.length Xc1, .slice XA2 X.hm.length Xc2, .slice XA3 X.pd.length Xc3, .slice XA4 X.dr.length Xc4, .int .i64 X.sq, .int .i64 X.bs, .int .i64 X.sf, .int .i64 X.at_, .int .i64 X.df]) X) lo' up' q := by rw [hq]; exact pI.next (belA (bel0 _) _)
         have kX2 : Blk q aX 28 zB_ := by rw [hq, ← ha]; exact Blk.new' _ _ _ _ rfl
         have laX : W8.heap.size ≤ aX := by rw [← ha]; exact bw.size
         exact key_fz_2_7 aX q ⟨bw2, kP2, kQ2, kX2, pI2, laX⟩
      case key =>
       rintro aX r ⟨bw, kP, kQ, kX, pI, laX⟩
       try dsimp only
       refine wpAnyH_ready (rs := [2]) (by kernel_rfl) (by simp) ?_
       refine AllReadyH.cons (o := ?oi12010) ?hi12010 (fun K hK => ?br12010) AllReadyH.nil
       case hi12010 => (conv => lhs; simp only [gT_, gZ_, gS_]); try exact rfl
       case br12010 =>
        go_simp
        go_at_call 9
        refine (Hat.out _ (belG BW8 bw hle0)).mono ?_
        rintro e q ⟨rfl, hb⟩
        have bw2 := gb_below bw hb
        have kP2 := kP.below hb kP.lt
        have kQ2 := kQ.below hb kQ.lt
        have kX2 := kX.below hb kX.lt
        have pI2 : InAt (fun w => IsBook w (.agg #[.slice XA1 X.rg.length Xc1, .slice XA2 X.hm.length Xc2, .slice XA3 X.pd.length Xc3, .slice XA4 X.dr.length Xc4, .int .i64 X.sq, .int .i64 X.bs, .int .i64 X.sf, .int .i64 X.at_, .int .i64 X.df]) X) lo' up' q := pI.next hb
        refine hK.out _ _ (by exact kQ2.g9) (fun _ => ?_)
        clear hK K
        try simp only [Act.put, pT_, pZ_, pS_]
        exact key_fz_2_7 aX q ⟨bw2, kP2, kQ2, kX2, pI2, laX⟩
     case key =>
      rintro lo2 up2 v2 r ⟨bw, kP, kQ, pI, pN, hlo1⟩
      try dsimp only
      refine wpAnyH_ready (rs := [7]) (by kernel_rfl) (by simp) ?_
      refine AllReadyH.cons (o := ?oi12011) ?hi12011 (fun K hK => ?br12011) AllReadyH.nil
      case hi12011 => (conv => lhs; simp only [gT_, gZ_, gS_]); try exact rfl
      case br12011 =>
       go_simp
       refine hK.out _ _ (by exact (kQ.alloc (.cells zB_ 28)).g9) (fun _ => ?_)
       clear hK K
       try simp only [Act.put, pT_, pZ_, pS_]
       refine foldH ?_
       intro q hq
       obtain ⟨aX, ha⟩ : ∃ g, r.heap.size = g := ⟨_, rfl⟩
       rw [ha]
       have bw2 : W8.grownBy q (some g0) := by rw [hq]; exact gb_below bw (belA (bel0 r) (.cells zB_ 28))
       have kP2 : Blk q _ _ _ := hq ▸ kP.alloc (.cells zB_ 28)
       have kQ2 : Blk q _ _ _ := hq ▸ kQ.alloc (.cells zB_ 28)
       have pI2 : InAt (fun w => IsBook w (.agg #[.slice XA1 X.rg.length Xc1, .slice XA2 X.hm.length Xc2, .slice XA3 X.pd.length Xc3, .slice XA4 X.dr.length Xc4, .int .i64 X.sq, .int .i64 X.bs, .int .i64 X.sf, .int .i64 X.at_, .int .i64 X.df]) X) lo' up' q := by rw [hq]; exact pI.next (belA (bel0 _) _)
       have pN2 : InAt (OwnBk lo2 v2 Y) lo2 up2 q := by rw [hq]; exact pN.next (belA (bel0 _) _)
       have kX2 : Blk q aX 28 zB_ := by rw [hq, ← ha]; exact Blk.new' _ _ _ _ rfl
       have laX : W8.heap.size ≤ aX := by rw [← ha]; exact bw.size
       have sep : aX < lo2 ∨ up2 ≤ aX := .inr (by have := pN.1; omega)
       exact key_fz_2_3_7 aX lo2 up2 v2 q ⟨bw2, kP2, kQ2, kX2, pI2, pN2, hlo1, laX, sep⟩
    case key =>
     rintro aX r ⟨bw, kP, kQ, kX, pI, laX⟩
     try dsimp only
     refine wpAnyH_ready (rs := [3]) (by kernel_rfl) (by simp) ?_
     refine AllReadyH.cons (o := ?oi12012) ?hi12012 (fun K hK => ?br12012) AllReadyH.nil
     case hi12012 => (conv => lhs; simp only [gT_, gZ_, gS_]); try exact rfl
     case br12012 =>
      go_simp
      go_at_call 12
      refine (fall_impl _ X SZX.out x2 (by omega) HY.out _ (HT.out.bl (belG BW8 bw hle0)) pI.is).mono ?_
      rintro e q ⟨v2, lo2, up2, rfl, hlo0, hinF, hb⟩
      have bw2 := gb_below bw hb
      have kP2 := kP.below hb kP.lt
      have kQ2 := kQ.below hb kQ.lt
      have kX2 := kX.below hb kX.lt
      have pI2 : InAt (fun w => IsBook w (.agg #[.slice XA1 X.rg.length Xc1, .slice XA2 X.hm.length Xc2, .slice XA3 X.pd.length Xc3, .slice XA4 X.dr.length Xc4, .int .i64 X.sq, .int .i64 X.bs, .int .i64 X.sf, .int .i64 X.at_, .int .i64 X.df]) X) lo' up' q := pI.next hb
      have pN2 := hinF
      have hlo1 : W8.heap.size ≤ lo2 := by have := bw.size; omega
      have sep : aX < lo2 ∨ up2 ≤ aX := .inl (by have := kX.lt; omega)
      refine hK.out _ _ (by exact kQ2.g9) (fun _ => ?_)
      clear hK K
      try simp only [Act.put, pT_, pZ_, pS_]
      refine tkV_ 4 (v := ?v12013) ?hy12013 ?hS12013 ?hr12013
      case hS12013 => exact kQ2.g9
      case hy12013 => refine Or.inl ⟨by rfl, ?_⟩; intro w hSw; (try dsimp only at hSw); go_simp; (try with_reducible rfl)
      simp only [Act.put, pT_, pZ_, pS_]
      refine tkV_ 5 (v := ?v12014) ?hy12014 ?hS12014 ?hr12014
      case hS12014 => exact kQ2.g9
      case hy12014 => refine Or.inl ⟨by rfl, ?_⟩; intro w hSw; (try dsimp only at hSw); go_simp; (try with_reducible rfl)
      simp only [Act.put, pT_, pZ_, pS_]
      refine tkV_ 6 (v := ?v12015) ?hy12015 ?hS12015 ?hr12015
      case hS12015 => exact kQ2.g9
      case hy12015 => refine Or.inl ⟨by rfl, ?_⟩; intro w hSw; (try dsimp only at hSw); go_simp; (try with_reducible rfl)
      simp only [Act.put, pT_, pZ_, pS_]
      exact key_fz_2_3_7 aX lo2 up2 v2 q ⟨bw2, kP2, kQ2, kX2, pI2, pN2, hlo1, laX, sep⟩
   case key =>
    rintro aX lo2 up2 v2 r ⟨bw, kP, kQ, kX, pI, pN, hlo1, laX, sep⟩
    try dsimp only
    refine wpAnyH_ready (rs := [8]) (by kernel_rfl) (by simp) ?_
    refine AllReadyH.cons (o := ?oi12016) ?hi12016 (fun K hK => ?br12016) AllReadyH.nil
    case hi12016 => (conv => lhs; simp only [gT_, gZ_, gS_]); try exact rfl
    case br12016 =>
     obtain ⟨YA1, Yc1, YA2, Yc2, YA3, Yc3, YA4, Yc4, hv, _⟩ := pN.is.isBk
     subst hv
     have HN : Hid (InAt (fun w => IsBook w (.agg #[.slice YA1 Y.rg.length Yc1, .slice YA2 Y.hm.length Yc2, .slice YA3 Y.pd.length Yc3, .slice YA4 Y.dr.length Yc4, .int .i64 Y.sq, .int .i64 Y.bs, .int .i64 Y.sf, .int .i64 Y.at_, .int .i64 Y.df]) Y) lo2 up2 r) := Lib.hid (pN.map fun _ h => h.isBk)
     clear pN pI
     have x_0 := kX.get (x := .slice none 0 0) 0 rfl
     have x_1 := kX.get (x := .slice none 0 0) 1 rfl
     have x_2 := kX.get (x := .slice none 0 0) 2 rfl
     have x_3 := kX.get (x := .slice none 0 0) 3 rfl
     have x_4 := kX.get (x := .int .i64 0) 4 rfl
     have x_5 := kX.get (x := .int .i64 0) 5 rfl
     have x_6 := kX.get (x := .int .i64 0) 6 rfl
     have x_7 := kX.get (x := .int .i64 0) 7 rfl
     have x_8 := kX.get (x := .int .i64 0) 8 rfl
     obtain ⟨f_0, f_1, f_2, f_3, f_4, f_5, f_6, f_7, f_8⟩ := kX.f9
     have lE := kX.lt
     have zr := bw.size
     have lP := kP.lt
     have lQ := kQ.lt
     obtain ⟨w9, h9, hB9, s9, hb9, ho9⟩ := put9n r aX 28 (.slice YA1 Y.rg.length Yc1) (.slice YA2 Y.hm.length Yc2) (.slice YA3 Y.pd.length Yc3) (.slice YA4 Y.dr.length Yc4) (.int .i64 Y.sq) (.int .i64 Y.bs) (.int .i64 Y.sf) (.int .i64 Y.at_) (.int .i64 Y.df) (.slice none 0 0) (.slice none 0 0) (.slice none 0 0) (.slice none 0 0) (.int .i64 0) (.int .i64 0) (.int .i64 0) (.int .i64 0) (.int .i64 0) kX
     have P9 := kP.eqN (ho9 _ (by omega))
     have Q9 := kQ.eqN (ho9 _ (by omega))
     have b9 : Below W8.heap.size W8 w9 := hb9 _ _ laX (belG (bel0 W8) bw (by omega))
     have HN9 : Hid (InAt (fun w => IsBook w (.agg #[.slice YA1 Y.rg.length Yc1, .slice YA2 Y.hm.length Yc2, .slice YA3 Y.pd.length Yc3, .slice YA4 Y.dr.length Yc4, .int .i64 Y.sq, .int .i64 Y.bs, .int .i64 Y.sf, .int .i64 Y.at_, .int .i64 Y.df]) Y) lo2 up2 w9) := Lib.hid (HN.out.keepL (by omega) fun i h1 h2 => ho9 i (by rcases sep with h | h <;> omega))
     go_simp
     refine hK.out _ _ (by first | exact Q9.g9 | (rw [h9]; exact Q9.g9)) (fun _ => ?_)
     clear hK K
     try simp only [Act.put, pT_, pZ_, pS_]
     try rw [h9]
     clear h9 hb9 ho9 lE HN kP kQ kX bw x_0 x_1 x_2 x_3 x_4 x_5 x_6 x_7 x_8 f_0 f_1 f_2 f_3 f_4 f_5 f_6 f_7 f_8
     refine tkV_ 9 (v := ?v12017) ?hy12017 ?hS12017 ?hr12017
     case hS12017 => exact Q9.g9
     case hy12017 => refine Or.inl ⟨by rfl, ?_⟩; intro w hSw; (try dsimp only at hSw); go_simp; (try with_reducible rfl)
     simp only [Act.put, pT_, pZ_, pS_]
     refine wpAnyH_done (by kernel_rfl) ?_ _
     have BW9 := belN BW8 b9
     have HB9 : Hid (InAt (fun w => IsBook w (.agg #[.slice BA1 B.rg.length Bc1, .slice BA2 B.hm.length Bc2, .slice BA3 B.pd.length Bc3, .slice BA4 B.dr.length Bc4, .int .i64 B.sq, .int .i64 B.bs, .int .i64 B.sf, .int .i64 B.at_, .int .i64 B.df]) B) lo up w9) := Lib.hid (HB8.out.next b9)
     obtain ⟨c0, c1, c2, c3, c4, c5, c6, c7, c8⟩ := hB9.g9
     obtain ⟨q0, q1, q2, q3, q4, q5, q6, q7, q8⟩ := P9.g9
     have lP9 := P9.lt
     have lX9 := hB9.lt
     go_wp2_with fail
     refine (sameDir_self _ _ Y.dr hk12 _ (bk_dir HN9.out.is) (by rw [← Hdd.out]; exact bk_dir HB9.out.is)).mono ?_
     rintro e w11 ⟨rfl, hb11⟩
     go_wp2
     go_ret
     exact ⟨rfl, belN BW9 hb11⟩

end Go.Proofs.YtghgafbfpejinaaGreatDoor
