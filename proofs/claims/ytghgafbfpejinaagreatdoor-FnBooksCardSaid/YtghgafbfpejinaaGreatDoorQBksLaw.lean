/- The law FnBooks, walked: a right book stays right; what is refused changes nothing. -/
import Derived.Test.YtghgafbfpejinaaGreatDoorQDrD
import Derived.Test.YtghgafbfpejinaaGreatDoorQOpsS
namespace Go.Proofs.YtghgafbfpejinaaGreatDoor
open Go Go.RowKit

theorem doBk_cases {B X : BookD} {k : Int} {s : ByteArray} {i : Int} {b : Bool} (h : doBk B k s i = (X, b)) : (bookOkB B = false ∧ b = false ∧ X.rg.length = 0) ∨ (bookOkB B = true ∧ b = false ∧ X = B) ∨ (bookOkB B = true ∧ b = true) := by
 rcases hok : bookOkB B with _ | _
 ·rw [doBk_bad hok] at h
  injection h with h1 h2
  subst h1 h2
  exact .inl ⟨rfl, rfl, rfl⟩
 ·right
  by_cases h2 : opOkB k s i = true ∧ (doP B.dr k s i).2 = true ∧ B.sq < B.bs + 6 ∧ B.sq < 1000000 ∧ B.pd.length < 20
  ·rw [doBk_yes hok h2] at h
   injection h with h1 h3
   exact .inr ⟨rfl, h3.symm⟩
  ·rw [doBk_no hok h2] at h
   injection h with h1 h3
   exact .inl ⟨rfl, h3.symm, h1.symm⟩
theorem homeBk_cases {B X : BookD} {b : Bool} (h : homeBk B = (X, b)) : (bookOkB B = false ∧ b = false) ∨ (bookOkB B = true ∧ b = false ∧ X = B) ∨ (bookOkB B = true ∧ b = true ∧ X.df = B.sq ∧ X.sf = B.sq ∧ X.pd.length = 1) := by
 rcases hok : bookOkB B with _ | _
 ·rw [homeBk_bad hok] at h
  injection h with h1 h2
  exact .inl ⟨rfl, h2.symm⟩
 ·right
  by_cases h2 : B.df ≠ 0 ∨ B.sq = B.bs
  ·rw [homeBk_no hok h2] at h
   injection h with h1 h3
   exact .inl ⟨rfl, h3.symm, h1.symm⟩
  ·rw [homeBk_yes hok h2] at h
   injection h with h1 h3
   subst h1
   exact .inr ⟨rfl, h3.symm, rfl, rfl, rfl⟩
theorem fall_cases {B X : BookD} {m : Int} {b : Bool} (hs : SmB B) (h : fallP B m = (X, b)) : b = false ∨ (b = true ∧ bookOkB X = true ∧ szBk X ≤ 1048576 ∧ X.pd.length = 0 ∧ X.sf = X.sq) := by
 rcases b with _ | _
 ·exact .inl rfl
 ·right
  have hok : bookOkB B = true := by
   rcases hok : bookOkB B with _ | _
   ·rw [fall_no hok] at h; cases h
   ·rfl
  have h1 := fall_ok hok h
  have h2 := fallP_small hok hs h
  exact ⟨rfl, h1.1, smB_sz h1.1 h2, congrArg List.length (h1.2 rfl).1, (h1.2 rfl).2⟩

set_option maxRecDepth 100000 in
set_option maxHeartbeats 4000000 in
theorem law_fnBooks (A : Option Addr) (n cp : Nat) (bs : List UInt8) (w : World) (hT : Tab w) (hr : Reads w w.heap.size 1 A n (B8 bs)) :
  Calls Tryz.prog 4 #[.slice A n cp] w fun e w' => e = .returned (.bool true) ∧ Below w.heap.size w w' := by
 have HT := Lib.hid hT
 have Hr := Lib.hid hr
 clear hT hr
 by_cases hbig : 1048576 < n
 ·have Hd := Lib.hid (show decide (1048576 < n) = true by simpa using hbig)
  go_enter Tryz.func4, Tryz.ntmps4
  go_wp2_with fail
  refine (big_any A n cp w).mono ?_
  rintro e w1 ⟨rfl, hb1⟩
  rw [Hd.out]
  go_wp2
  go_ret
  exact ⟨rfl, hb1⟩
 have Hd := Lib.hid (show decide (1048576 < n) = false by simpa using hbig)
 go_enter Tryz.func4, Tryz.ntmps4
 go_wp2_with fail
 refine (big_any A n cp w).mono ?_
 rintro e w1 ⟨rfl, hb1⟩
 rw [Hd.out]
 have BW := hb1
 clear hb1
 go_wp2_with fail
 refine (drawBookDo_any A n cp bs (by omega) w1 ((Hr.out.below BW).more BW.size)).mono ?_
 rintro e w2 ⟨v, B, k, s, i, rfl, hs, hI, hsz, hb2⟩
 have BW := belN BW hb2
 have HszB := Lib.hid hsz
 have IB0 := Lib.hid hI
 obtain ⟨BA1, Bc1, BA2, Bc2, BA3, Bc3, BA4, Bc4, rfl, _⟩ := hI
 have IB : Hid (IsBook w2 (.agg #[.slice BA1 B.rg.length Bc1, .slice BA2 B.hm.length Bc2, .slice BA3 B.pd.length Bc3, .slice BA4 B.dr.length Bc4, .int .i64 B.sq, .int .i64 B.bs, .int .i64 B.sf, .int .i64 B.at_, .int .i64 B.df]) B) := IB0
 clear IB0 hb2 hsz
 obtain ⟨W2a, hW2a⟩ : ∃ W, w2.alloc (.cells #[.slice BA1 B.rg.length Bc1, .slice BA2 B.hm.length Bc2, .slice BA3 B.pd.length Bc3, .slice BA4 B.dr.length Bc4, .int .i64 B.sq, .int .i64 B.bs, .int .i64 B.sf, .int .i64 B.at_, .int .i64 B.df] 28) = W := ⟨_, rfl⟩
 obtain ⟨pb, hpb⟩ : ∃ p, w2.heap.size = p := ⟨_, rfl⟩
 have IB : Hid (IsBook W2a (.agg #[.slice BA1 B.rg.length Bc1, .slice BA2 B.hm.length Bc2, .slice BA3 B.pd.length Bc3, .slice BA4 B.dr.length Bc4, .int .i64 B.sq, .int .i64 B.bs, .int .i64 B.sf, .int .i64 B.at_, .int .i64 B.df]) B) := Lib.hid (by rw [← hW2a]; exact IB.out.next (belA (bel0 _) _))
 have Pb : Blk W2a pb 28 #[.slice BA1 B.rg.length Bc1, .slice BA2 B.hm.length Bc2, .slice BA3 B.pd.length Bc3, .slice BA4 B.dr.length Bc4, .int .i64 B.sq, .int .i64 B.bs, .int .i64 B.sf, .int .i64 B.at_, .int .i64 B.df] := by rw [← hW2a, ← hpb]; exact Blk.new' _ _ _ _ rfl
 have BW : Below w.heap.size w W2a := by rw [← hW2a]; exact belA BW _
 have HW2a := Lib.hid hW2a
 have HPb := Lib.hid hpb
 clear hW2a hpb
 obtain ⟨W2b, hW2b⟩ : ∃ W, W2a.alloc (.cells #[.int .i64 k, .string s, .int .i64 i] 32) = W := ⟨_, rfl⟩
 have hzo : W2a.heap.size = pb + 1 := by rw [← HW2a.out, ← HPb.out]; simp
 obtain ⟨po, hpo⟩ : ∃ p, pb + 1 = p := ⟨_, rfl⟩
 have Pb : Blk W2b pb 28 #[.slice BA1 B.rg.length Bc1, .slice BA2 B.hm.length Bc2, .slice BA3 B.pd.length Bc3, .slice BA4 B.dr.length Bc4, .int .i64 B.sq, .int .i64 B.bs, .int .i64 B.sf, .int .i64 B.at_, .int .i64 B.df] := by rw [← hW2b]; exact Pb.alloc _
 have IB : Hid (IsBook W2b (.agg #[.slice BA1 B.rg.length Bc1, .slice BA2 B.hm.length Bc2, .slice BA3 B.pd.length Bc3, .slice BA4 B.dr.length Bc4, .int .i64 B.sq, .int .i64 B.bs, .int .i64 B.sf, .int .i64 B.at_, .int .i64 B.df]) B) := Lib.hid (by rw [← hW2b]; exact IB.out.next (belA (bel0 _) _))
 have Po : Blk W2b po 32 #[.int .i64 k, .string s, .int .i64 i] := by rw [← hW2b, ← hpo]; exact Blk.new' _ _ _ _ hzo.symm
 have BW : Below w.heap.size w W2b := by rw [← hW2b]; exact belA BW _
 have HW2b := Lib.hid hW2b
 have HPo := Lib.hid hpo
 clear hW2b hpo
 obtain ⟨⟨X, b1⟩, hX⟩ : ∃ p, doBk B k s i = p := ⟨_, rfl⟩
 have HX := Lib.hid hX
 clear hX
 go_upto_region 4 with fail
 rw [HW2a.out]
 rw [HPb.out]
 rw [HW2b.out]
 rw [HPo.out]
 clear HW2a HPb HW2b HPo
 obtain ⟨cb0, cb1, cb2, cb3, cb4, cb5, cb6, cb7, cb8⟩ := Pb.g9
 have lb := Pb.lt
 obtain ⟨co0, co1, co2⟩ := Po.g3
 have lo := Po.lt
 go_wp2_with fail
 clear cb0 cb1 cb2 cb3 cb4 cb5 cb6 cb7 cb8 lb co0 co1 co2 lo
 refine (bookDo_impl _ B HszB.out.1 k s i (by omega) HX.out W2b (HT.out.bl BW) IB.out).mono ?_
 rintro e w3 ⟨v', lo, up, rfl, hlo, hin, hb3⟩
 have Pb := Pb.below hb3 Pb.lt
 have Po := Po.below hb3 Po.lt
 have IB := Lib.hid (IB.out.next hb3)
 have BW := belN BW hb3
 have hIX := hin.is.isBk
 have IX0 := Lib.hid hIX
 obtain ⟨XA1, Xc1, XA2, Xc2, XA3, Xc3, XA4, Xc4, rfl, _⟩ := hIX
 have IX : Hid (IsBook w3 (.agg #[.slice XA1 X.rg.length Xc1, .slice XA2 X.hm.length Xc2, .slice XA3 X.pd.length Xc3, .slice XA4 X.dr.length Xc4, .int .i64 X.sq, .int .i64 X.bs, .int .i64 X.sf, .int .i64 X.at_, .int .i64 X.df]) X) := IX0
 clear IX0 hin
 clear hb3 hlo
 obtain ⟨W3, hW3⟩ : ∃ W, w3.alloc (.cells #[.slice XA1 X.rg.length Xc1, .slice XA2 X.hm.length Xc2, .slice XA3 X.pd.length Xc3, .slice XA4 X.dr.length Xc4, .int .i64 X.sq, .int .i64 X.bs, .int .i64 X.sf, .int .i64 X.at_, .int .i64 X.df] 28) = W := ⟨_, rfl⟩
 obtain ⟨px, hpx⟩ : ∃ p, w3.heap.size = p := ⟨_, rfl⟩
 have Pb : Blk W3 pb 28 #[.slice BA1 B.rg.length Bc1, .slice BA2 B.hm.length Bc2, .slice BA3 B.pd.length Bc3, .slice BA4 B.dr.length Bc4, .int .i64 B.sq, .int .i64 B.bs, .int .i64 B.sf, .int .i64 B.at_, .int .i64 B.df] := by rw [← hW3]; exact Pb.alloc _
 have Po : Blk W3 po 32 #[.int .i64 k, .string s, .int .i64 i] := by rw [← hW3]; exact Po.alloc _
 have IB : Hid (IsBook W3 (.agg #[.slice BA1 B.rg.length Bc1, .slice BA2 B.hm.length Bc2, .slice BA3 B.pd.length Bc3, .slice BA4 B.dr.length Bc4, .int .i64 B.sq, .int .i64 B.bs, .int .i64 B.sf, .int .i64 B.at_, .int .i64 B.df]) B) := Lib.hid (by rw [← hW3]; exact IB.out.next (belA (bel0 _) _))
 have IX : Hid (IsBook W3 (.agg #[.slice XA1 X.rg.length Xc1, .slice XA2 X.hm.length Xc2, .slice XA3 X.pd.length Xc3, .slice XA4 X.dr.length Xc4, .int .i64 X.sq, .int .i64 X.bs, .int .i64 X.sf, .int .i64 X.at_, .int .i64 X.df]) X) := Lib.hid (by rw [← hW3]; exact IX.out.next (belA (bel0 _) _))
 have Px : Blk W3 px 28 #[.slice XA1 X.rg.length Xc1, .slice XA2 X.hm.length Xc2, .slice XA3 X.pd.length Xc3, .slice XA4 X.dr.length Xc4, .int .i64 X.sq, .int .i64 X.bs, .int .i64 X.sf, .int .i64 X.at_, .int .i64 X.df] := by rw [← hW3, ← hpx]; exact Blk.new' _ _ _ _ rfl
 have BW : Below w.heap.size w W3 := by rw [← hW3]; exact belA BW _
 have HW3 := Lib.hid hW3
 have HPx := Lib.hid hpx
 clear hW3 hpx
 go_upto_region 5 with fail
 rw [HW3.out]
 rw [HPx.out]
 clear HW3 HPx
 obtain ⟨cb0, cb1, cb2, cb3, cb4, cb5, cb6, cb7, cb8⟩ := Pb.g9
 have lb := Pb.lt
 obtain ⟨co0, co1, co2⟩ := Po.g3
 have lo := Po.lt
 go_wp2_with fail
 clear cb0 cb1 cb2 cb3 cb4 cb5 cb6 cb7 cb8 lb co0 co1 co2 lo
 refine (bookDo_spec _ B HszB.out.1 k s i (by omega) HX.out W3 IB.out).mono ?_
 rintro e w4 ⟨v', lo, up, rfl, hlo, hin, hb4⟩
 have Pb := Pb.below hb4 Pb.lt
 have Po := Po.below hb4 Po.lt
 have Px := Px.below hb4 Px.lt
 have IB := Lib.hid (IB.out.next hb4)
 have IX := Lib.hid (IX.out.next hb4)
 have BW := belN BW hb4
 have hIXs := hin.is.isBk
 have IXs0 := Lib.hid hIXs
 obtain ⟨XsA1, Xsc1, XsA2, Xsc2, XsA3, Xsc3, XsA4, Xsc4, rfl, _⟩ := hIXs
 have IXs : Hid (IsBook w4 (.agg #[.slice XsA1 X.rg.length Xsc1, .slice XsA2 X.hm.length Xsc2, .slice XsA3 X.pd.length Xsc3, .slice XsA4 X.dr.length Xsc4, .int .i64 X.sq, .int .i64 X.bs, .int .i64 X.sf, .int .i64 X.at_, .int .i64 X.df]) X) := IXs0
 clear IXs0 hin
 clear hb4 hlo IXs Po
 obtain ⟨W4, hW4⟩ : ∃ W, w4.alloc (.cells #[.slice XsA1 X.rg.length Xsc1, .slice XsA2 X.hm.length Xsc2, .slice XsA3 X.pd.length Xsc3, .slice XsA4 X.dr.length Xsc4, .int .i64 X.sq, .int .i64 X.bs, .int .i64 X.sf, .int .i64 X.at_, .int .i64 X.df] 28) = W := ⟨_, rfl⟩
 obtain ⟨pxs, hpxs⟩ : ∃ p, w4.heap.size = p := ⟨_, rfl⟩
 have Pb : Blk W4 pb 28 #[.slice BA1 B.rg.length Bc1, .slice BA2 B.hm.length Bc2, .slice BA3 B.pd.length Bc3, .slice BA4 B.dr.length Bc4, .int .i64 B.sq, .int .i64 B.bs, .int .i64 B.sf, .int .i64 B.at_, .int .i64 B.df] := by rw [← hW4]; exact Pb.alloc _
 have Px : Blk W4 px 28 #[.slice XA1 X.rg.length Xc1, .slice XA2 X.hm.length Xc2, .slice XA3 X.pd.length Xc3, .slice XA4 X.dr.length Xc4, .int .i64 X.sq, .int .i64 X.bs, .int .i64 X.sf, .int .i64 X.at_, .int .i64 X.df] := by rw [← hW4]; exact Px.alloc _
 have IB : Hid (IsBook W4 (.agg #[.slice BA1 B.rg.length Bc1, .slice BA2 B.hm.length Bc2, .slice BA3 B.pd.length Bc3, .slice BA4 B.dr.length Bc4, .int .i64 B.sq, .int .i64 B.bs, .int .i64 B.sf, .int .i64 B.at_, .int .i64 B.df]) B) := Lib.hid (by rw [← hW4]; exact IB.out.next (belA (bel0 _) _))
 have IX : Hid (IsBook W4 (.agg #[.slice XA1 X.rg.length Xc1, .slice XA2 X.hm.length Xc2, .slice XA3 X.pd.length Xc3, .slice XA4 X.dr.length Xc4, .int .i64 X.sq, .int .i64 X.bs, .int .i64 X.sf, .int .i64 X.at_, .int .i64 X.df]) X) := Lib.hid (by rw [← hW4]; exact IX.out.next (belA (bel0 _) _))
 have Pxs : Blk W4 pxs 28 #[.slice XsA1 X.rg.length Xsc1, .slice XsA2 X.hm.length Xsc2, .slice XsA3 X.pd.length Xsc3, .slice XsA4 X.dr.length Xsc4, .int .i64 X.sq, .int .i64 X.bs, .int .i64 X.sf, .int .i64 X.at_, .int .i64 X.df] := by rw [← hW4, ← hpxs]; exact Blk.new' _ _ _ _ rfl
 have BW : Below w.heap.size w W4 := by rw [← hW4]; exact belA BW _
 have HW4 := Lib.hid hW4
 have HPxs := Lib.hid hpxs
 clear hW4 hpxs
 clear Pxs
 go_upto_region 6 with fail
 rw [HW4.out]
 try rw [HPxs.out]
 clear HW4 HPxs
 go_wp2_with fail
 refine (drawBookHome_any A n cp bs (by omega) W4 ((Hr.out.below BW).more BW.size)).mono ?_
 rintro e w5 ⟨v', H, rfl, hI, hsz, hb5⟩
 have Pb := Pb.below hb5 Pb.lt
 have Px := Px.below hb5 Px.lt
 have IB := Lib.hid (IB.out.next hb5)
 have IX := Lib.hid (IX.out.next hb5)
 have BW := belN BW hb5
 have HszH := Lib.hid hsz
 have IH0 := Lib.hid hI
 obtain ⟨HA1, Hc1, HA2, Hc2, HA3, Hc3, HA4, Hc4, rfl, _⟩ := hI
 have IH : Hid (IsBook w5 (.agg #[.slice HA1 H.rg.length Hc1, .slice HA2 H.hm.length Hc2, .slice HA3 H.pd.length Hc3, .slice HA4 H.dr.length Hc4, .int .i64 H.sq, .int .i64 H.bs, .int .i64 H.sf, .int .i64 H.at_, .int .i64 H.df]) H) := IH0
 clear IH0 hb5 hsz
 obtain ⟨W5, hW5⟩ : ∃ W, w5.alloc (.cells #[.slice HA1 H.rg.length Hc1, .slice HA2 H.hm.length Hc2, .slice HA3 H.pd.length Hc3, .slice HA4 H.dr.length Hc4, .int .i64 H.sq, .int .i64 H.bs, .int .i64 H.sf, .int .i64 H.at_, .int .i64 H.df] 28) = W := ⟨_, rfl⟩
 obtain ⟨ph, hph⟩ : ∃ p, w5.heap.size = p := ⟨_, rfl⟩
 have Pb : Blk W5 pb 28 #[.slice BA1 B.rg.length Bc1, .slice BA2 B.hm.length Bc2, .slice BA3 B.pd.length Bc3, .slice BA4 B.dr.length Bc4, .int .i64 B.sq, .int .i64 B.bs, .int .i64 B.sf, .int .i64 B.at_, .int .i64 B.df] := by rw [← hW5]; exact Pb.alloc _
 have Px : Blk W5 px 28 #[.slice XA1 X.rg.length Xc1, .slice XA2 X.hm.length Xc2, .slice XA3 X.pd.length Xc3, .slice XA4 X.dr.length Xc4, .int .i64 X.sq, .int .i64 X.bs, .int .i64 X.sf, .int .i64 X.at_, .int .i64 X.df] := by rw [← hW5]; exact Px.alloc _
 have IB : Hid (IsBook W5 (.agg #[.slice BA1 B.rg.length Bc1, .slice BA2 B.hm.length Bc2, .slice BA3 B.pd.length Bc3, .slice BA4 B.dr.length Bc4, .int .i64 B.sq, .int .i64 B.bs, .int .i64 B.sf, .int .i64 B.at_, .int .i64 B.df]) B) := Lib.hid (by rw [← hW5]; exact IB.out.next (belA (bel0 _) _))
 have IX : Hid (IsBook W5 (.agg #[.slice XA1 X.rg.length Xc1, .slice XA2 X.hm.length Xc2, .slice XA3 X.pd.length Xc3, .slice XA4 X.dr.length Xc4, .int .i64 X.sq, .int .i64 X.bs, .int .i64 X.sf, .int .i64 X.at_, .int .i64 X.df]) X) := Lib.hid (by rw [← hW5]; exact IX.out.next (belA (bel0 _) _))
 have IH : Hid (IsBook W5 (.agg #[.slice HA1 H.rg.length Hc1, .slice HA2 H.hm.length Hc2, .slice HA3 H.pd.length Hc3, .slice HA4 H.dr.length Hc4, .int .i64 H.sq, .int .i64 H.bs, .int .i64 H.sf, .int .i64 H.at_, .int .i64 H.df]) H) := Lib.hid (by rw [← hW5]; exact IH.out.next (belA (bel0 _) _))
 have Ph : Blk W5 ph 28 #[.slice HA1 H.rg.length Hc1, .slice HA2 H.hm.length Hc2, .slice HA3 H.pd.length Hc3, .slice HA4 H.dr.length Hc4, .int .i64 H.sq, .int .i64 H.bs, .int .i64 H.sf, .int .i64 H.at_, .int .i64 H.df] := by rw [← hW5, ← hph]; exact Blk.new' _ _ _ _ rfl
 have BW : Below w.heap.size w W5 := by rw [← hW5]; exact belA BW _
 have HW5 := Lib.hid hW5
 have HPh := Lib.hid hph
 clear hW5 hph
 obtain ⟨⟨Y, b2⟩, hY⟩ : ∃ p, homeBk H = p := ⟨_, rfl⟩
 have HY := Lib.hid hY
 clear hY
 go_upto_region 7 with fail
 rw [HW5.out]
 rw [HPh.out]
 clear HW5 HPh
 obtain ⟨ch0, ch1, ch2, ch3, ch4, ch5, ch6, ch7, ch8⟩ := Ph.g9
 have lh := Ph.lt
 go_wp2_with fail
 clear ch0 ch1 ch2 ch3 ch4 ch5 ch6 ch7 ch8 lh
 refine (bookHome_impl _ H HszH.out.1 HY.out W5 (HT.out.bl BW) IH.out).mono ?_
 rintro e w6 ⟨v', lo, up, rfl, hlo, hin, hb6⟩
 have Pb := Pb.below hb6 Pb.lt
 have Px := Px.below hb6 Px.lt
 have Ph := Ph.below hb6 Ph.lt
 have IB := Lib.hid (IB.out.next hb6)
 have IX := Lib.hid (IX.out.next hb6)
 have IH := Lib.hid (IH.out.next hb6)
 have BW := belN BW hb6
 have hIY := hin.is.isBk
 have IY0 := Lib.hid hIY
 obtain ⟨YA1, Yc1, YA2, Yc2, YA3, Yc3, YA4, Yc4, rfl, _⟩ := hIY
 have IY : Hid (IsBook w6 (.agg #[.slice YA1 Y.rg.length Yc1, .slice YA2 Y.hm.length Yc2, .slice YA3 Y.pd.length Yc3, .slice YA4 Y.dr.length Yc4, .int .i64 Y.sq, .int .i64 Y.bs, .int .i64 Y.sf, .int .i64 Y.at_, .int .i64 Y.df]) Y) := IY0
 clear IY0 hin
 clear hb6 hlo IY
 obtain ⟨W6, hW6⟩ : ∃ W, w6.alloc (.cells #[.slice YA1 Y.rg.length Yc1, .slice YA2 Y.hm.length Yc2, .slice YA3 Y.pd.length Yc3, .slice YA4 Y.dr.length Yc4, .int .i64 Y.sq, .int .i64 Y.bs, .int .i64 Y.sf, .int .i64 Y.at_, .int .i64 Y.df] 28) = W := ⟨_, rfl⟩
 obtain ⟨py, hpy⟩ : ∃ p, w6.heap.size = p := ⟨_, rfl⟩
 have Pb : Blk W6 pb 28 #[.slice BA1 B.rg.length Bc1, .slice BA2 B.hm.length Bc2, .slice BA3 B.pd.length Bc3, .slice BA4 B.dr.length Bc4, .int .i64 B.sq, .int .i64 B.bs, .int .i64 B.sf, .int .i64 B.at_, .int .i64 B.df] := by rw [← hW6]; exact Pb.alloc _
 have Px : Blk W6 px 28 #[.slice XA1 X.rg.length Xc1, .slice XA2 X.hm.length Xc2, .slice XA3 X.pd.length Xc3, .slice XA4 X.dr.length Xc4, .int .i64 X.sq, .int .i64 X.bs, .int .i64 X.sf, .int .i64 X.at_, .int .i64 X.df] := by rw [← hW6]; exact Px.alloc _
 have Ph : Blk W6 ph 28 #[.slice HA1 H.rg.length Hc1, .slice HA2 H.hm.length Hc2, .slice HA3 H.pd.length Hc3, .slice HA4 H.dr.length Hc4, .int .i64 H.sq, .int .i64 H.bs, .int .i64 H.sf, .int .i64 H.at_, .int .i64 H.df] := by rw [← hW6]; exact Ph.alloc _
 have IB : Hid (IsBook W6 (.agg #[.slice BA1 B.rg.length Bc1, .slice BA2 B.hm.length Bc2, .slice BA3 B.pd.length Bc3, .slice BA4 B.dr.length Bc4, .int .i64 B.sq, .int .i64 B.bs, .int .i64 B.sf, .int .i64 B.at_, .int .i64 B.df]) B) := Lib.hid (by rw [← hW6]; exact IB.out.next (belA (bel0 _) _))
 have IX : Hid (IsBook W6 (.agg #[.slice XA1 X.rg.length Xc1, .slice XA2 X.hm.length Xc2, .slice XA3 X.pd.length Xc3, .slice XA4 X.dr.length Xc4, .int .i64 X.sq, .int .i64 X.bs, .int .i64 X.sf, .int .i64 X.at_, .int .i64 X.df]) X) := Lib.hid (by rw [← hW6]; exact IX.out.next (belA (bel0 _) _))
 have IH : Hid (IsBook W6 (.agg #[.slice HA1 H.rg.length Hc1, .slice HA2 H.hm.length Hc2, .slice HA3 H.pd.length Hc3, .slice HA4 H.dr.length Hc4, .int .i64 H.sq, .int .i64 H.bs, .int .i64 H.sf, .int .i64 H.at_, .int .i64 H.df]) H) := Lib.hid (by rw [← hW6]; exact IH.out.next (belA (bel0 _) _))
 have Py : Blk W6 py 28 #[.slice YA1 Y.rg.length Yc1, .slice YA2 Y.hm.length Yc2, .slice YA3 Y.pd.length Yc3, .slice YA4 Y.dr.length Yc4, .int .i64 Y.sq, .int .i64 Y.bs, .int .i64 Y.sf, .int .i64 Y.at_, .int .i64 Y.df] := by rw [← hW6, ← hpy]; exact Blk.new' _ _ _ _ rfl
 have BW : Below w.heap.size w W6 := by rw [← hW6]; exact belA BW _
 have HW6 := Lib.hid hW6
 have HPy := Lib.hid hpy
 clear hW6 hpy
 go_upto_region 8 with fail
 rw [HW6.out]
 rw [HPy.out]
 clear HW6 HPy
 obtain ⟨ch0, ch1, ch2, ch3, ch4, ch5, ch6, ch7, ch8⟩ := Ph.g9
 have lh := Ph.lt
 go_wp2_with fail
 clear ch0 ch1 ch2 ch3 ch4 ch5 ch6 ch7 ch8 lh
 refine (bookHome_spec _ H HszH.out.1 HY.out W6 IH.out).mono ?_
 rintro e w7 ⟨v', lo, up, rfl, hlo, hin, hb7⟩
 have Pb := Pb.below hb7 Pb.lt
 have Px := Px.below hb7 Px.lt
 have Ph := Ph.below hb7 Ph.lt
 have Py := Py.below hb7 Py.lt
 have IB := Lib.hid (IB.out.next hb7)
 have IX := Lib.hid (IX.out.next hb7)
 have IH := Lib.hid (IH.out.next hb7)
 have BW := belN BW hb7
 have hIYs := hin.is.isBk
 have IYs0 := Lib.hid hIYs
 obtain ⟨YsA1, Ysc1, YsA2, Ysc2, YsA3, Ysc3, YsA4, Ysc4, rfl, _⟩ := hIYs
 have IYs : Hid (IsBook w7 (.agg #[.slice YsA1 Y.rg.length Ysc1, .slice YsA2 Y.hm.length Ysc2, .slice YsA3 Y.pd.length Ysc3, .slice YsA4 Y.dr.length Ysc4, .int .i64 Y.sq, .int .i64 Y.bs, .int .i64 Y.sf, .int .i64 Y.at_, .int .i64 Y.df]) Y) := IYs0
 clear IYs0 hin
 clear hb7 hlo IYs
 obtain ⟨W7, hW7⟩ : ∃ W, w7.alloc (.cells #[.slice YsA1 Y.rg.length Ysc1, .slice YsA2 Y.hm.length Ysc2, .slice YsA3 Y.pd.length Ysc3, .slice YsA4 Y.dr.length Ysc4, .int .i64 Y.sq, .int .i64 Y.bs, .int .i64 Y.sf, .int .i64 Y.at_, .int .i64 Y.df] 28) = W := ⟨_, rfl⟩
 obtain ⟨pys, hpys⟩ : ∃ p, w7.heap.size = p := ⟨_, rfl⟩
 have Pb : Blk W7 pb 28 #[.slice BA1 B.rg.length Bc1, .slice BA2 B.hm.length Bc2, .slice BA3 B.pd.length Bc3, .slice BA4 B.dr.length Bc4, .int .i64 B.sq, .int .i64 B.bs, .int .i64 B.sf, .int .i64 B.at_, .int .i64 B.df] := by rw [← hW7]; exact Pb.alloc _
 have Px : Blk W7 px 28 #[.slice XA1 X.rg.length Xc1, .slice XA2 X.hm.length Xc2, .slice XA3 X.pd.length Xc3, .slice XA4 X.dr.length Xc4, .int .i64 X.sq, .int .i64 X.bs, .int .i64 X.sf, .int .i64 X.at_, .int .i64 X.df] := by rw [← hW7]; exact Px.alloc _
 have Ph : Blk W7 ph 28 #[.slice HA1 H.rg.length Hc1, .slice HA2 H.hm.length Hc2, .slice HA3 H.pd.length Hc3, .slice HA4 H.dr.length Hc4, .int .i64 H.sq, .int .i64 H.bs, .int .i64 H.sf, .int .i64 H.at_, .int .i64 H.df] := by rw [← hW7]; exact Ph.alloc _
 have Py : Blk W7 py 28 #[.slice YA1 Y.rg.length Yc1, .slice YA2 Y.hm.length Yc2, .slice YA3 Y.pd.length Yc3, .slice YA4 Y.dr.length Yc4, .int .i64 Y.sq, .int .i64 Y.bs, .int .i64 Y.sf, .int .i64 Y.at_, .int .i64 Y.df] := by rw [← hW7]; exact Py.alloc _
 have IB : Hid (IsBook W7 (.agg #[.slice BA1 B.rg.length Bc1, .slice BA2 B.hm.length Bc2, .slice BA3 B.pd.length Bc3, .slice BA4 B.dr.length Bc4, .int .i64 B.sq, .int .i64 B.bs, .int .i64 B.sf, .int .i64 B.at_, .int .i64 B.df]) B) := Lib.hid (by rw [← hW7]; exact IB.out.next (belA (bel0 _) _))
 have IX : Hid (IsBook W7 (.agg #[.slice XA1 X.rg.length Xc1, .slice XA2 X.hm.length Xc2, .slice XA3 X.pd.length Xc3, .slice XA4 X.dr.length Xc4, .int .i64 X.sq, .int .i64 X.bs, .int .i64 X.sf, .int .i64 X.at_, .int .i64 X.df]) X) := Lib.hid (by rw [← hW7]; exact IX.out.next (belA (bel0 _) _))
 have IH : Hid (IsBook W7 (.agg #[.slice HA1 H.rg.length Hc1, .slice HA2 H.hm.length Hc2, .slice HA3 H.pd.length Hc3, .slice HA4 H.dr.length Hc4, .int .i64 H.sq, .int .i64 H.bs, .int .i64 H.sf, .int .i64 H.at_, .int .i64 H.df]) H) := Lib.hid (by rw [← hW7]; exact IH.out.next (belA (bel0 _) _))
 have Pys : Blk W7 pys 28 #[.slice YsA1 Y.rg.length Ysc1, .slice YsA2 Y.hm.length Ysc2, .slice YsA3 Y.pd.length Ysc3, .slice YsA4 Y.dr.length Ysc4, .int .i64 Y.sq, .int .i64 Y.bs, .int .i64 Y.sf, .int .i64 Y.at_, .int .i64 Y.df] := by rw [← hW7, ← hpys]; exact Blk.new' _ _ _ _ rfl
 have BW : Below w.heap.size w W7 := by rw [← hW7]; exact belA BW _
 have HW7 := Lib.hid hW7
 have HPys := Lib.hid hpys
 clear hW7 hpys
 clear Pys
 go_upto_region 9 with fail
 rw [HW7.out]
 try rw [HPys.out]
 clear HW7 HPys
 go_wp2_with fail
 refine (drawBookFall_any A n cp bs (by omega) W7 ((Hr.out.below BW).more BW.size)).mono ?_
 rintro e w8 ⟨v', Fb, mk, rfl, hmk0, hmk1, hI, hsz, hb8⟩
 have Pb := Pb.below hb8 Pb.lt
 have Px := Px.below hb8 Px.lt
 have Ph := Ph.below hb8 Ph.lt
 have Py := Py.below hb8 Py.lt
 have IB := Lib.hid (IB.out.next hb8)
 have IX := Lib.hid (IX.out.next hb8)
 have IH := Lib.hid (IH.out.next hb8)
 have BW := belN BW hb8
 have HszF := Lib.hid hsz
 have IFb0 := Lib.hid hI
 obtain ⟨FbA1, Fbc1, FbA2, Fbc2, FbA3, Fbc3, FbA4, Fbc4, rfl, _⟩ := hI
 have IFb : Hid (IsBook w8 (.agg #[.slice FbA1 Fb.rg.length Fbc1, .slice FbA2 Fb.hm.length Fbc2, .slice FbA3 Fb.pd.length Fbc3, .slice FbA4 Fb.dr.length Fbc4, .int .i64 Fb.sq, .int .i64 Fb.bs, .int .i64 Fb.sf, .int .i64 Fb.at_, .int .i64 Fb.df]) Fb) := IFb0
 clear IFb0 hb8 hsz
 obtain ⟨W8, hW8⟩ : ∃ W, w8.alloc (.cells #[.slice FbA1 Fb.rg.length Fbc1, .slice FbA2 Fb.hm.length Fbc2, .slice FbA3 Fb.pd.length Fbc3, .slice FbA4 Fb.dr.length Fbc4, .int .i64 Fb.sq, .int .i64 Fb.bs, .int .i64 Fb.sf, .int .i64 Fb.at_, .int .i64 Fb.df] 28) = W := ⟨_, rfl⟩
 obtain ⟨pf, hpf⟩ : ∃ p, w8.heap.size = p := ⟨_, rfl⟩
 have Pb : Blk W8 pb 28 #[.slice BA1 B.rg.length Bc1, .slice BA2 B.hm.length Bc2, .slice BA3 B.pd.length Bc3, .slice BA4 B.dr.length Bc4, .int .i64 B.sq, .int .i64 B.bs, .int .i64 B.sf, .int .i64 B.at_, .int .i64 B.df] := by rw [← hW8]; exact Pb.alloc _
 have Px : Blk W8 px 28 #[.slice XA1 X.rg.length Xc1, .slice XA2 X.hm.length Xc2, .slice XA3 X.pd.length Xc3, .slice XA4 X.dr.length Xc4, .int .i64 X.sq, .int .i64 X.bs, .int .i64 X.sf, .int .i64 X.at_, .int .i64 X.df] := by rw [← hW8]; exact Px.alloc _
 have Ph : Blk W8 ph 28 #[.slice HA1 H.rg.length Hc1, .slice HA2 H.hm.length Hc2, .slice HA3 H.pd.length Hc3, .slice HA4 H.dr.length Hc4, .int .i64 H.sq, .int .i64 H.bs, .int .i64 H.sf, .int .i64 H.at_, .int .i64 H.df] := by rw [← hW8]; exact Ph.alloc _
 have Py : Blk W8 py 28 #[.slice YA1 Y.rg.length Yc1, .slice YA2 Y.hm.length Yc2, .slice YA3 Y.pd.length Yc3, .slice YA4 Y.dr.length Yc4, .int .i64 Y.sq, .int .i64 Y.bs, .int .i64 Y.sf, .int .i64 Y.at_, .int .i64 Y.df] := by rw [← hW8]; exact Py.alloc _
 have IB : Hid (IsBook W8 (.agg #[.slice BA1 B.rg.length Bc1, .slice BA2 B.hm.length Bc2, .slice BA3 B.pd.length Bc3, .slice BA4 B.dr.length Bc4, .int .i64 B.sq, .int .i64 B.bs, .int .i64 B.sf, .int .i64 B.at_, .int .i64 B.df]) B) := Lib.hid (by rw [← hW8]; exact IB.out.next (belA (bel0 _) _))
 have IX : Hid (IsBook W8 (.agg #[.slice XA1 X.rg.length Xc1, .slice XA2 X.hm.length Xc2, .slice XA3 X.pd.length Xc3, .slice XA4 X.dr.length Xc4, .int .i64 X.sq, .int .i64 X.bs, .int .i64 X.sf, .int .i64 X.at_, .int .i64 X.df]) X) := Lib.hid (by rw [← hW8]; exact IX.out.next (belA (bel0 _) _))
 have IH : Hid (IsBook W8 (.agg #[.slice HA1 H.rg.length Hc1, .slice HA2 H.hm.length Hc2, .slice HA3 H.pd.length Hc3, .slice HA4 H.dr.length Hc4, .int .i64 H.sq, .int .i64 H.bs, .int .i64 H.sf, .int .i64 H.at_, .int .i64 H.df]) H) := Lib.hid (by rw [← hW8]; exact IH.out.next (belA (bel0 _) _))
 have IFb : Hid (IsBook W8 (.agg #[.slice FbA1 Fb.rg.length Fbc1, .slice FbA2 Fb.hm.length Fbc2, .slice FbA3 Fb.pd.length Fbc3, .slice FbA4 Fb.dr.length Fbc4, .int .i64 Fb.sq, .int .i64 Fb.bs, .int .i64 Fb.sf, .int .i64 Fb.at_, .int .i64 Fb.df]) Fb) := Lib.hid (by rw [← hW8]; exact IFb.out.next (belA (bel0 _) _))
 have Pf : Blk W8 pf 28 #[.slice FbA1 Fb.rg.length Fbc1, .slice FbA2 Fb.hm.length Fbc2, .slice FbA3 Fb.pd.length Fbc3, .slice FbA4 Fb.dr.length Fbc4, .int .i64 Fb.sq, .int .i64 Fb.bs, .int .i64 Fb.sf, .int .i64 Fb.at_, .int .i64 Fb.df] := by rw [← hW8, ← hpf]; exact Blk.new' _ _ _ _ rfl
 have BW : Below w.heap.size w W8 := by rw [← hW8]; exact belA BW _
 have HW8 := Lib.hid hW8
 have HPf := Lib.hid hpf
 clear hW8 hpf
 obtain ⟨⟨Z, b3⟩, hZ⟩ : ∃ p, fallP Fb mk = p := ⟨_, rfl⟩
 have HZ := Lib.hid hZ
 clear hZ
 go_upto_region 10 with fail
 rw [HW8.out]
 rw [HPf.out]
 clear HW8 HPf
 obtain ⟨cf0, cf1, cf2, cf3, cf4, cf5, cf6, cf7, cf8⟩ := Pf.g9
 have lf := Pf.lt
 go_wp2_with fail
 clear cf0 cf1 cf2 cf3 cf4 cf5 cf6 cf7 cf8 lf
 refine (fall_impl _ Fb HszF.out.1 mk (by omega) HZ.out W8 (HT.out.bl BW) IFb.out).mono ?_
 rintro e w9 ⟨v', lo, up, rfl, hlo, hin, hb9⟩
 have Pb := Pb.below hb9 Pb.lt
 have Px := Px.below hb9 Px.lt
 have Ph := Ph.below hb9 Ph.lt
 have Py := Py.below hb9 Py.lt
 have Pf := Pf.below hb9 Pf.lt
 have IB := Lib.hid (IB.out.next hb9)
 have IX := Lib.hid (IX.out.next hb9)
 have IH := Lib.hid (IH.out.next hb9)
 have IFb := Lib.hid (IFb.out.next hb9)
 have BW := belN BW hb9
 have hIZ := hin.is.isBk
 have IZ0 := Lib.hid hIZ
 obtain ⟨ZA1, Zc1, ZA2, Zc2, ZA3, Zc3, ZA4, Zc4, rfl, _⟩ := hIZ
 have IZ : Hid (IsBook w9 (.agg #[.slice ZA1 Z.rg.length Zc1, .slice ZA2 Z.hm.length Zc2, .slice ZA3 Z.pd.length Zc3, .slice ZA4 Z.dr.length Zc4, .int .i64 Z.sq, .int .i64 Z.bs, .int .i64 Z.sf, .int .i64 Z.at_, .int .i64 Z.df]) Z) := IZ0
 clear IZ0 hin
 clear hb9 hlo
 obtain ⟨W9, hW9⟩ : ∃ W, w9.alloc (.cells #[.slice ZA1 Z.rg.length Zc1, .slice ZA2 Z.hm.length Zc2, .slice ZA3 Z.pd.length Zc3, .slice ZA4 Z.dr.length Zc4, .int .i64 Z.sq, .int .i64 Z.bs, .int .i64 Z.sf, .int .i64 Z.at_, .int .i64 Z.df] 28) = W := ⟨_, rfl⟩
 obtain ⟨pz, hpz⟩ : ∃ p, w9.heap.size = p := ⟨_, rfl⟩
 have Pb : Blk W9 pb 28 #[.slice BA1 B.rg.length Bc1, .slice BA2 B.hm.length Bc2, .slice BA3 B.pd.length Bc3, .slice BA4 B.dr.length Bc4, .int .i64 B.sq, .int .i64 B.bs, .int .i64 B.sf, .int .i64 B.at_, .int .i64 B.df] := by rw [← hW9]; exact Pb.alloc _
 have Px : Blk W9 px 28 #[.slice XA1 X.rg.length Xc1, .slice XA2 X.hm.length Xc2, .slice XA3 X.pd.length Xc3, .slice XA4 X.dr.length Xc4, .int .i64 X.sq, .int .i64 X.bs, .int .i64 X.sf, .int .i64 X.at_, .int .i64 X.df] := by rw [← hW9]; exact Px.alloc _
 have Ph : Blk W9 ph 28 #[.slice HA1 H.rg.length Hc1, .slice HA2 H.hm.length Hc2, .slice HA3 H.pd.length Hc3, .slice HA4 H.dr.length Hc4, .int .i64 H.sq, .int .i64 H.bs, .int .i64 H.sf, .int .i64 H.at_, .int .i64 H.df] := by rw [← hW9]; exact Ph.alloc _
 have Py : Blk W9 py 28 #[.slice YA1 Y.rg.length Yc1, .slice YA2 Y.hm.length Yc2, .slice YA3 Y.pd.length Yc3, .slice YA4 Y.dr.length Yc4, .int .i64 Y.sq, .int .i64 Y.bs, .int .i64 Y.sf, .int .i64 Y.at_, .int .i64 Y.df] := by rw [← hW9]; exact Py.alloc _
 have Pf : Blk W9 pf 28 #[.slice FbA1 Fb.rg.length Fbc1, .slice FbA2 Fb.hm.length Fbc2, .slice FbA3 Fb.pd.length Fbc3, .slice FbA4 Fb.dr.length Fbc4, .int .i64 Fb.sq, .int .i64 Fb.bs, .int .i64 Fb.sf, .int .i64 Fb.at_, .int .i64 Fb.df] := by rw [← hW9]; exact Pf.alloc _
 have IB : Hid (IsBook W9 (.agg #[.slice BA1 B.rg.length Bc1, .slice BA2 B.hm.length Bc2, .slice BA3 B.pd.length Bc3, .slice BA4 B.dr.length Bc4, .int .i64 B.sq, .int .i64 B.bs, .int .i64 B.sf, .int .i64 B.at_, .int .i64 B.df]) B) := Lib.hid (by rw [← hW9]; exact IB.out.next (belA (bel0 _) _))
 have IX : Hid (IsBook W9 (.agg #[.slice XA1 X.rg.length Xc1, .slice XA2 X.hm.length Xc2, .slice XA3 X.pd.length Xc3, .slice XA4 X.dr.length Xc4, .int .i64 X.sq, .int .i64 X.bs, .int .i64 X.sf, .int .i64 X.at_, .int .i64 X.df]) X) := Lib.hid (by rw [← hW9]; exact IX.out.next (belA (bel0 _) _))
 have IH : Hid (IsBook W9 (.agg #[.slice HA1 H.rg.length Hc1, .slice HA2 H.hm.length Hc2, .slice HA3 H.pd.length Hc3, .slice HA4 H.dr.length Hc4, .int .i64 H.sq, .int .i64 H.bs, .int .i64 H.sf, .int .i64 H.at_, .int .i64 H.df]) H) := Lib.hid (by rw [← hW9]; exact IH.out.next (belA (bel0 _) _))
 have IFb : Hid (IsBook W9 (.agg #[.slice FbA1 Fb.rg.length Fbc1, .slice FbA2 Fb.hm.length Fbc2, .slice FbA3 Fb.pd.length Fbc3, .slice FbA4 Fb.dr.length Fbc4, .int .i64 Fb.sq, .int .i64 Fb.bs, .int .i64 Fb.sf, .int .i64 Fb.at_, .int .i64 Fb.df]) Fb) := Lib.hid (by rw [← hW9]; exact IFb.out.next (belA (bel0 _) _))
 have IZ : Hid (IsBook W9 (.agg #[.slice ZA1 Z.rg.length Zc1, .slice ZA2 Z.hm.length Zc2, .slice ZA3 Z.pd.length Zc3, .slice ZA4 Z.dr.length Zc4, .int .i64 Z.sq, .int .i64 Z.bs, .int .i64 Z.sf, .int .i64 Z.at_, .int .i64 Z.df]) Z) := Lib.hid (by rw [← hW9]; exact IZ.out.next (belA (bel0 _) _))
 have Pz : Blk W9 pz 28 #[.slice ZA1 Z.rg.length Zc1, .slice ZA2 Z.hm.length Zc2, .slice ZA3 Z.pd.length Zc3, .slice ZA4 Z.dr.length Zc4, .int .i64 Z.sq, .int .i64 Z.bs, .int .i64 Z.sf, .int .i64 Z.at_, .int .i64 Z.df] := by rw [← hW9, ← hpz]; exact Blk.new' _ _ _ _ rfl
 have BW : Below w.heap.size w W9 := by rw [← hW9]; exact belA BW _
 have HW9 := Lib.hid hW9
 have HPz := Lib.hid hpz
 clear hW9 hpz
 go_upto_region 11 with fail
 rw [HW9.out]
 rw [HPz.out]
 clear HW9 HPz
 obtain ⟨cf0, cf1, cf2, cf3, cf4, cf5, cf6, cf7, cf8⟩ := Pf.g9
 have lf := Pf.lt
 go_wp2_with fail
 clear cf0 cf1 cf2 cf3 cf4 cf5 cf6 cf7 cf8 lf
 refine (fall_spec _ Fb HszF.out.1 mk (by omega) HZ.out W9 IFb.out).mono ?_
 rintro e w10 ⟨v', lo, up, rfl, hlo, hin, hb10⟩
 have Pb := Pb.below hb10 Pb.lt
 have Px := Px.below hb10 Px.lt
 have Ph := Ph.below hb10 Ph.lt
 have Py := Py.below hb10 Py.lt
 have Pf := Pf.below hb10 Pf.lt
 have Pz := Pz.below hb10 Pz.lt
 have IB := Lib.hid (IB.out.next hb10)
 have IX := Lib.hid (IX.out.next hb10)
 have IH := Lib.hid (IH.out.next hb10)
 have IFb := Lib.hid (IFb.out.next hb10)
 have IZ := Lib.hid (IZ.out.next hb10)
 have BW := belN BW hb10
 have hIZs := hin.is.isBk
 have IZs0 := Lib.hid hIZs
 obtain ⟨ZsA1, Zsc1, ZsA2, Zsc2, ZsA3, Zsc3, ZsA4, Zsc4, rfl, _⟩ := hIZs
 have IZs : Hid (IsBook w10 (.agg #[.slice ZsA1 Z.rg.length Zsc1, .slice ZsA2 Z.hm.length Zsc2, .slice ZsA3 Z.pd.length Zsc3, .slice ZsA4 Z.dr.length Zsc4, .int .i64 Z.sq, .int .i64 Z.bs, .int .i64 Z.sf, .int .i64 Z.at_, .int .i64 Z.df]) Z) := IZs0
 clear IZs0 hin
 clear hb10 hlo IZs IFb Pf
 obtain ⟨W10, hW10⟩ : ∃ W, w10.alloc (.cells #[.slice ZsA1 Z.rg.length Zsc1, .slice ZsA2 Z.hm.length Zsc2, .slice ZsA3 Z.pd.length Zsc3, .slice ZsA4 Z.dr.length Zsc4, .int .i64 Z.sq, .int .i64 Z.bs, .int .i64 Z.sf, .int .i64 Z.at_, .int .i64 Z.df] 28) = W := ⟨_, rfl⟩
 obtain ⟨pzs, hpzs⟩ : ∃ p, w10.heap.size = p := ⟨_, rfl⟩
 have Pb : Blk W10 pb 28 #[.slice BA1 B.rg.length Bc1, .slice BA2 B.hm.length Bc2, .slice BA3 B.pd.length Bc3, .slice BA4 B.dr.length Bc4, .int .i64 B.sq, .int .i64 B.bs, .int .i64 B.sf, .int .i64 B.at_, .int .i64 B.df] := by rw [← hW10]; exact Pb.alloc _
 have Px : Blk W10 px 28 #[.slice XA1 X.rg.length Xc1, .slice XA2 X.hm.length Xc2, .slice XA3 X.pd.length Xc3, .slice XA4 X.dr.length Xc4, .int .i64 X.sq, .int .i64 X.bs, .int .i64 X.sf, .int .i64 X.at_, .int .i64 X.df] := by rw [← hW10]; exact Px.alloc _
 have Ph : Blk W10 ph 28 #[.slice HA1 H.rg.length Hc1, .slice HA2 H.hm.length Hc2, .slice HA3 H.pd.length Hc3, .slice HA4 H.dr.length Hc4, .int .i64 H.sq, .int .i64 H.bs, .int .i64 H.sf, .int .i64 H.at_, .int .i64 H.df] := by rw [← hW10]; exact Ph.alloc _
 have Py : Blk W10 py 28 #[.slice YA1 Y.rg.length Yc1, .slice YA2 Y.hm.length Yc2, .slice YA3 Y.pd.length Yc3, .slice YA4 Y.dr.length Yc4, .int .i64 Y.sq, .int .i64 Y.bs, .int .i64 Y.sf, .int .i64 Y.at_, .int .i64 Y.df] := by rw [← hW10]; exact Py.alloc _
 have Pz : Blk W10 pz 28 #[.slice ZA1 Z.rg.length Zc1, .slice ZA2 Z.hm.length Zc2, .slice ZA3 Z.pd.length Zc3, .slice ZA4 Z.dr.length Zc4, .int .i64 Z.sq, .int .i64 Z.bs, .int .i64 Z.sf, .int .i64 Z.at_, .int .i64 Z.df] := by rw [← hW10]; exact Pz.alloc _
 have IB : Hid (IsBook W10 (.agg #[.slice BA1 B.rg.length Bc1, .slice BA2 B.hm.length Bc2, .slice BA3 B.pd.length Bc3, .slice BA4 B.dr.length Bc4, .int .i64 B.sq, .int .i64 B.bs, .int .i64 B.sf, .int .i64 B.at_, .int .i64 B.df]) B) := Lib.hid (by rw [← hW10]; exact IB.out.next (belA (bel0 _) _))
 have IX : Hid (IsBook W10 (.agg #[.slice XA1 X.rg.length Xc1, .slice XA2 X.hm.length Xc2, .slice XA3 X.pd.length Xc3, .slice XA4 X.dr.length Xc4, .int .i64 X.sq, .int .i64 X.bs, .int .i64 X.sf, .int .i64 X.at_, .int .i64 X.df]) X) := Lib.hid (by rw [← hW10]; exact IX.out.next (belA (bel0 _) _))
 have IH : Hid (IsBook W10 (.agg #[.slice HA1 H.rg.length Hc1, .slice HA2 H.hm.length Hc2, .slice HA3 H.pd.length Hc3, .slice HA4 H.dr.length Hc4, .int .i64 H.sq, .int .i64 H.bs, .int .i64 H.sf, .int .i64 H.at_, .int .i64 H.df]) H) := Lib.hid (by rw [← hW10]; exact IH.out.next (belA (bel0 _) _))
 have IZ : Hid (IsBook W10 (.agg #[.slice ZA1 Z.rg.length Zc1, .slice ZA2 Z.hm.length Zc2, .slice ZA3 Z.pd.length Zc3, .slice ZA4 Z.dr.length Zc4, .int .i64 Z.sq, .int .i64 Z.bs, .int .i64 Z.sf, .int .i64 Z.at_, .int .i64 Z.df]) Z) := Lib.hid (by rw [← hW10]; exact IZ.out.next (belA (bel0 _) _))
 have Pzs : Blk W10 pzs 28 #[.slice ZsA1 Z.rg.length Zsc1, .slice ZsA2 Z.hm.length Zsc2, .slice ZsA3 Z.pd.length Zsc3, .slice ZsA4 Z.dr.length Zsc4, .int .i64 Z.sq, .int .i64 Z.bs, .int .i64 Z.sf, .int .i64 Z.at_, .int .i64 Z.df] := by rw [← hW10, ← hpzs]; exact Blk.new' _ _ _ _ rfl
 have BW : Below w.heap.size w W10 := by rw [← hW10]; exact belA BW _
 have HW10 := Lib.hid hW10
 have HPzs := Lib.hid hpzs
 clear hW10 hpzs
 clear Pzs
 have n1 : (b1 != b1) = false := by cases b1 <;> rfl
 have n2 : (b2 != b2) = false := by cases b2 <;> rfl
 have n3 : (b3 != b3) = false := by cases b3 <;> rfl
 go_upto_region 14 with fail
 rw [HW10.out]
 try rw [HPzs.out]
 clear HW10 HPzs n1 n2 n3
 rcases doBk_cases HX.out with ⟨hok, rfl, hx0⟩ | ⟨hok, rfl, hXB⟩ | ⟨hok, rfl⟩
 ·have HokB := Lib.hid hok
  have xl : (((X.rg.length : Nat) : Int) != 0) = false := by rw [hx0]; rfl
  clear hok hx0
  obtain ⟨cb0, cb1, cb2, cb3, cb4, cb5, cb6, cb7, cb8⟩ := Pb.g9
  have lb := Pb.lt
  go_wp2_with fail
  clear cb0 cb1 cb2 cb3 cb4 cb5 cb6 cb7 cb8 lb
  refine (bookOk_spec _ B HszB.out.1 W10 IB.out).mono ?_
  rintro e u1 ⟨rfl, hbu1⟩
  have Pb := Pb.below hbu1 Pb.lt
  have Px := Px.below hbu1 Px.lt
  have Ph := Ph.below hbu1 Ph.lt
  have Py := Py.below hbu1 Py.lt
  have Pz := Pz.below hbu1 Pz.lt
  have IB := Lib.hid (IB.out.next hbu1)
  have IX := Lib.hid (IX.out.next hbu1)
  have IH := Lib.hid (IH.out.next hbu1)
  have IZ := Lib.hid (IZ.out.next hbu1)
  have BW := belN BW hbu1
  clear hbu1
  rw [HokB.out]
  obtain ⟨cb0, cb1, cb2, cb3, cb4, cb5, cb6, cb7, cb8⟩ := Pb.g9
  have lb := Pb.lt
  go_wp2_with fail
  clear cb0 cb1 cb2 cb3 cb4 cb5 cb6 cb7 cb8 lb
  refine (bookOk_spec _ B HszB.out.1 u1 IB.out).mono ?_
  rintro e u2 ⟨rfl, hbu2⟩
  have Pb := Pb.below hbu2 Pb.lt
  have Px := Px.below hbu2 Px.lt
  have Ph := Ph.below hbu2 Ph.lt
  have Py := Py.below hbu2 Py.lt
  have Pz := Pz.below hbu2 Pz.lt
  have IB := Lib.hid (IB.out.next hbu2)
  have IX := Lib.hid (IX.out.next hbu2)
  have IH := Lib.hid (IH.out.next hbu2)
  have IZ := Lib.hid (IZ.out.next hbu2)
  have BW := belN BW hbu2
  clear hbu2
  rw [HokB.out]
  obtain ⟨cx0, cx1, cx2, cx3, cx4, cx5, cx6, cx7, cx8⟩ := Px.g9
  have lx := Px.lt
  go_upto_region 16 with fail
  clear cx0 cx1 cx2 cx3 cx4 cx5 cx6 cx7 cx8 lx
  clear xl
  rcases homeBk_cases HY.out with ⟨hok, rfl⟩ | ⟨hok, rfl, hYH⟩ | ⟨hok, rfl, hy1, hy2, hy3⟩
  ·have Hok := Lib.hid hok
   clear hok
   obtain ⟨ch0, ch1, ch2, ch3, ch4, ch5, ch6, ch7, ch8⟩ := Ph.g9
   have lh := Ph.lt
   go_wp2_with fail
   clear ch0 ch1 ch2 ch3 ch4 ch5 ch6 ch7 ch8 lh
   refine (bookOk_spec _ H HszH.out.1 u2 IH.out).mono ?_
   rintro e u3 ⟨rfl, hbu3⟩
   have Pb := Pb.below hbu3 Pb.lt
   have Px := Px.below hbu3 Px.lt
   have Ph := Ph.below hbu3 Ph.lt
   have Py := Py.below hbu3 Py.lt
   have Pz := Pz.below hbu3 Pz.lt
   have IB := Lib.hid (IB.out.next hbu3)
   have IX := Lib.hid (IX.out.next hbu3)
   have IH := Lib.hid (IH.out.next hbu3)
   have IZ := Lib.hid (IZ.out.next hbu3)
   have BW := belN BW hbu3
   clear hbu3
   rw [Hok.out]
   go_upto_region 18 with fail
   rcases fall_cases HszF.out.2 HZ.out with rfl | ⟨rfl, zok, zsz, zp0, zsq⟩
   ·go_wp2
    go_ret
    exact ⟨rfl, BW⟩
   ·have ez := HZ
    clear ez
    have zp1 : (((Z.pd.length : Nat) : Int) == 0) = true := by rw [zp0]; rfl
    have zs1 : (Z.sf == Z.sq) = true := by rw [zsq]; exact beq_self_eq_true _
    have Hzok := Lib.hid zok
    clear zok zp0 zsq
    obtain ⟨cz0, cz1, cz2, cz3, cz4, cz5, cz6, cz7, cz8⟩ := Pz.g9
    have lz := Pz.lt
    go_wp2_with fail
    clear cz0 cz1 cz2 cz3 cz4 cz5 cz6 cz7 cz8 lz
    refine (bookOk_spec _ Z zsz u3 IZ.out).mono ?_
    rintro e u4 ⟨rfl, hbu4⟩
    have Pb := Pb.below hbu4 Pb.lt
    have Px := Px.below hbu4 Px.lt
    have Ph := Ph.below hbu4 Ph.lt
    have Py := Py.below hbu4 Py.lt
    have Pz := Pz.below hbu4 Pz.lt
    have IB := Lib.hid (IB.out.next hbu4)
    have IX := Lib.hid (IX.out.next hbu4)
    have IH := Lib.hid (IH.out.next hbu4)
    have IZ := Lib.hid (IZ.out.next hbu4)
    have BW := belN BW hbu4
    clear hbu4
    rw [Hzok.out]
    obtain ⟨cz0, cz1, cz2, cz3, cz4, cz5, cz6, cz7, cz8⟩ := Pz.g9
    have lz := Pz.lt
    go_wp2
    go_ret
    exact ⟨rfl, BW⟩
  ·have Hok := Lib.hid hok
   have yd : (Y.df != H.df) = false := by rw [hYH, bne_self_eq_false]
   have yl : (((Y.pd.length : Nat) : Int) != ((H.pd.length : Nat) : Int)) = false := by rw [hYH, bne_self_eq_false]
   clear hok hYH
   obtain ⟨ch0, ch1, ch2, ch3, ch4, ch5, ch6, ch7, ch8⟩ := Ph.g9
   have lh := Ph.lt
   go_wp2_with fail
   clear ch0 ch1 ch2 ch3 ch4 ch5 ch6 ch7 ch8 lh
   refine (bookOk_spec _ H HszH.out.1 u2 IH.out).mono ?_
   rintro e u5 ⟨rfl, hbu5⟩
   have Pb := Pb.below hbu5 Pb.lt
   have Px := Px.below hbu5 Px.lt
   have Ph := Ph.below hbu5 Ph.lt
   have Py := Py.below hbu5 Py.lt
   have Pz := Pz.below hbu5 Pz.lt
   have IB := Lib.hid (IB.out.next hbu5)
   have IX := Lib.hid (IX.out.next hbu5)
   have IH := Lib.hid (IH.out.next hbu5)
   have IZ := Lib.hid (IZ.out.next hbu5)
   have BW := belN BW hbu5
   clear hbu5
   rw [Hok.out]
   obtain ⟨ch0, ch1, ch2, ch3, ch4, ch5, ch6, ch7, ch8⟩ := Ph.g9
   have lh := Ph.lt
   obtain ⟨cy0, cy1, cy2, cy3, cy4, cy5, cy6, cy7, cy8⟩ := Py.g9
   have ly := Py.lt
   go_upto_region 18 with fail
   clear ch0 ch1 ch2 ch3 ch4 ch5 ch6 ch7 ch8 lh cy0 cy1 cy2 cy3 cy4 cy5 cy6 cy7 cy8 ly
   clear yd yl
   rcases fall_cases HszF.out.2 HZ.out with rfl | ⟨rfl, zok, zsz, zp0, zsq⟩
   ·go_wp2
    go_ret
    exact ⟨rfl, BW⟩
   ·have ez := HZ
    clear ez
    have zp1 : (((Z.pd.length : Nat) : Int) == 0) = true := by rw [zp0]; rfl
    have zs1 : (Z.sf == Z.sq) = true := by rw [zsq]; exact beq_self_eq_true _
    have Hzok := Lib.hid zok
    clear zok zp0 zsq
    obtain ⟨cz0, cz1, cz2, cz3, cz4, cz5, cz6, cz7, cz8⟩ := Pz.g9
    have lz := Pz.lt
    go_wp2_with fail
    clear cz0 cz1 cz2 cz3 cz4 cz5 cz6 cz7 cz8 lz
    refine (bookOk_spec _ Z zsz u5 IZ.out).mono ?_
    rintro e u6 ⟨rfl, hbu6⟩
    have Pb := Pb.below hbu6 Pb.lt
    have Px := Px.below hbu6 Px.lt
    have Ph := Ph.below hbu6 Ph.lt
    have Py := Py.below hbu6 Py.lt
    have Pz := Pz.below hbu6 Pz.lt
    have IB := Lib.hid (IB.out.next hbu6)
    have IX := Lib.hid (IX.out.next hbu6)
    have IH := Lib.hid (IH.out.next hbu6)
    have IZ := Lib.hid (IZ.out.next hbu6)
    have BW := belN BW hbu6
    clear hbu6
    rw [Hzok.out]
    obtain ⟨cz0, cz1, cz2, cz3, cz4, cz5, cz6, cz7, cz8⟩ := Pz.g9
    have lz := Pz.lt
    go_wp2
    go_ret
    exact ⟨rfl, BW⟩
  ·have Hok := Lib.hid hok
   have yd : (Y.df != H.sq) = false := by rw [hy1, bne_self_eq_false]
   have ys : (Y.sf != H.sq) = false := by rw [hy2, bne_self_eq_false]
   have yl : (((Y.pd.length : Nat) : Int) != 1) = false := by rw [hy3]; rfl
   clear hok hy1 hy2 hy3
   obtain ⟨ch0, ch1, ch2, ch3, ch4, ch5, ch6, ch7, ch8⟩ := Ph.g9
   have lh := Ph.lt
   go_wp2_with fail
   clear ch0 ch1 ch2 ch3 ch4 ch5 ch6 ch7 ch8 lh
   refine (bookOk_spec _ H HszH.out.1 u2 IH.out).mono ?_
   rintro e u7 ⟨rfl, hbu7⟩
   have Pb := Pb.below hbu7 Pb.lt
   have Px := Px.below hbu7 Px.lt
   have Ph := Ph.below hbu7 Ph.lt
   have Py := Py.below hbu7 Py.lt
   have Pz := Pz.below hbu7 Pz.lt
   have IB := Lib.hid (IB.out.next hbu7)
   have IX := Lib.hid (IX.out.next hbu7)
   have IH := Lib.hid (IH.out.next hbu7)
   have IZ := Lib.hid (IZ.out.next hbu7)
   have BW := belN BW hbu7
   clear hbu7
   rw [Hok.out]
   obtain ⟨ch0, ch1, ch2, ch3, ch4, ch5, ch6, ch7, ch8⟩ := Ph.g9
   have lh := Ph.lt
   obtain ⟨cy0, cy1, cy2, cy3, cy4, cy5, cy6, cy7, cy8⟩ := Py.g9
   have ly := Py.lt
   go_upto_region 18 with fail
   clear ch0 ch1 ch2 ch3 ch4 ch5 ch6 ch7 ch8 lh cy0 cy1 cy2 cy3 cy4 cy5 cy6 cy7 cy8 ly
   clear yd yl ys
   rcases fall_cases HszF.out.2 HZ.out with rfl | ⟨rfl, zok, zsz, zp0, zsq⟩
   ·go_wp2
    go_ret
    exact ⟨rfl, BW⟩
   ·have ez := HZ
    clear ez
    have zp1 : (((Z.pd.length : Nat) : Int) == 0) = true := by rw [zp0]; rfl
    have zs1 : (Z.sf == Z.sq) = true := by rw [zsq]; exact beq_self_eq_true _
    have Hzok := Lib.hid zok
    clear zok zp0 zsq
    obtain ⟨cz0, cz1, cz2, cz3, cz4, cz5, cz6, cz7, cz8⟩ := Pz.g9
    have lz := Pz.lt
    go_wp2_with fail
    clear cz0 cz1 cz2 cz3 cz4 cz5 cz6 cz7 cz8 lz
    refine (bookOk_spec _ Z zsz u7 IZ.out).mono ?_
    rintro e u8 ⟨rfl, hbu8⟩
    have Pb := Pb.below hbu8 Pb.lt
    have Px := Px.below hbu8 Px.lt
    have Ph := Ph.below hbu8 Ph.lt
    have Py := Py.below hbu8 Py.lt
    have Pz := Pz.below hbu8 Pz.lt
    have IB := Lib.hid (IB.out.next hbu8)
    have IX := Lib.hid (IX.out.next hbu8)
    have IH := Lib.hid (IH.out.next hbu8)
    have IZ := Lib.hid (IZ.out.next hbu8)
    have BW := belN BW hbu8
    clear hbu8
    rw [Hzok.out]
    obtain ⟨cz0, cz1, cz2, cz3, cz4, cz5, cz6, cz7, cz8⟩ := Pz.g9
    have lz := Pz.lt
    go_wp2
    go_ret
    exact ⟨rfl, BW⟩
 ·have HokB := Lib.hid hok
  have HokX := Lib.hid (show bookOkB X = true by rw [hXB]; exact hok)
  have xsz : szBk X ≤ 1048576 := by rw [hXB]; exact HszB.out.1
  have xs1 : (X.sq != B.sq) = false := by rw [hXB, bne_self_eq_false]
  have xl : (((X.pd.length : Nat) : Int) != ((B.pd.length : Nat) : Int)) = false := by rw [hXB, bne_self_eq_false]
  clear hok hXB
  obtain ⟨cb0, cb1, cb2, cb3, cb4, cb5, cb6, cb7, cb8⟩ := Pb.g9
  have lb := Pb.lt
  go_wp2_with fail
  clear cb0 cb1 cb2 cb3 cb4 cb5 cb6 cb7 cb8 lb
  refine (bookOk_spec _ B HszB.out.1 W10 IB.out).mono ?_
  rintro e u9 ⟨rfl, hbu9⟩
  have Pb := Pb.below hbu9 Pb.lt
  have Px := Px.below hbu9 Px.lt
  have Ph := Ph.below hbu9 Ph.lt
  have Py := Py.below hbu9 Py.lt
  have Pz := Pz.below hbu9 Pz.lt
  have IB := Lib.hid (IB.out.next hbu9)
  have IX := Lib.hid (IX.out.next hbu9)
  have IH := Lib.hid (IH.out.next hbu9)
  have IZ := Lib.hid (IZ.out.next hbu9)
  have BW := belN BW hbu9
  clear hbu9
  rw [HokB.out]
  obtain ⟨cx0, cx1, cx2, cx3, cx4, cx5, cx6, cx7, cx8⟩ := Px.g9
  have lx := Px.lt
  go_wp2_with fail
  clear cx0 cx1 cx2 cx3 cx4 cx5 cx6 cx7 cx8 lx
  refine (bookOk_spec _ X xsz u9 IX.out).mono ?_
  rintro e u10 ⟨rfl, hbu10⟩
  have Pb := Pb.below hbu10 Pb.lt
  have Px := Px.below hbu10 Px.lt
  have Ph := Ph.below hbu10 Ph.lt
  have Py := Py.below hbu10 Py.lt
  have Pz := Pz.below hbu10 Pz.lt
  have IB := Lib.hid (IB.out.next hbu10)
  have IX := Lib.hid (IX.out.next hbu10)
  have IH := Lib.hid (IH.out.next hbu10)
  have IZ := Lib.hid (IZ.out.next hbu10)
  have BW := belN BW hbu10
  clear hbu10
  rw [HokX.out]
  obtain ⟨cx0, cx1, cx2, cx3, cx4, cx5, cx6, cx7, cx8⟩ := Px.g9
  have lx := Px.lt
  obtain ⟨cb0, cb1, cb2, cb3, cb4, cb5, cb6, cb7, cb8⟩ := Pb.g9
  have lb := Pb.lt
  go_wp2_with fail
  clear cb0 cb1 cb2 cb3 cb4 cb5 cb6 cb7 cb8 lb cx0 cx1 cx2 cx3 cx4 cx5 cx6 cx7 cx8 lx
  refine (bookOk_spec _ B HszB.out.1 u10 IB.out).mono ?_
  rintro e u11 ⟨rfl, hbu11⟩
  have Pb := Pb.below hbu11 Pb.lt
  have Px := Px.below hbu11 Px.lt
  have Ph := Ph.below hbu11 Ph.lt
  have Py := Py.below hbu11 Py.lt
  have Pz := Pz.below hbu11 Pz.lt
  have IB := Lib.hid (IB.out.next hbu11)
  have IX := Lib.hid (IX.out.next hbu11)
  have IH := Lib.hid (IH.out.next hbu11)
  have IZ := Lib.hid (IZ.out.next hbu11)
  have BW := belN BW hbu11
  clear hbu11
  rw [HokB.out]
  go_upto_region 16 with fail
  clear xl xs1
  rcases homeBk_cases HY.out with ⟨hok, rfl⟩ | ⟨hok, rfl, hYH⟩ | ⟨hok, rfl, hy1, hy2, hy3⟩
  ·have Hok := Lib.hid hok
   clear hok
   obtain ⟨ch0, ch1, ch2, ch3, ch4, ch5, ch6, ch7, ch8⟩ := Ph.g9
   have lh := Ph.lt
   go_wp2_with fail
   clear ch0 ch1 ch2 ch3 ch4 ch5 ch6 ch7 ch8 lh
   refine (bookOk_spec _ H HszH.out.1 u11 IH.out).mono ?_
   rintro e u12 ⟨rfl, hbu12⟩
   have Pb := Pb.below hbu12 Pb.lt
   have Px := Px.below hbu12 Px.lt
   have Ph := Ph.below hbu12 Ph.lt
   have Py := Py.below hbu12 Py.lt
   have Pz := Pz.below hbu12 Pz.lt
   have IB := Lib.hid (IB.out.next hbu12)
   have IX := Lib.hid (IX.out.next hbu12)
   have IH := Lib.hid (IH.out.next hbu12)
   have IZ := Lib.hid (IZ.out.next hbu12)
   have BW := belN BW hbu12
   clear hbu12
   rw [Hok.out]
   go_upto_region 18 with fail
   rcases fall_cases HszF.out.2 HZ.out with rfl | ⟨rfl, zok, zsz, zp0, zsq⟩
   ·go_wp2
    go_ret
    exact ⟨rfl, BW⟩
   ·have ez := HZ
    clear ez
    have zp1 : (((Z.pd.length : Nat) : Int) == 0) = true := by rw [zp0]; rfl
    have zs1 : (Z.sf == Z.sq) = true := by rw [zsq]; exact beq_self_eq_true _
    have Hzok := Lib.hid zok
    clear zok zp0 zsq
    obtain ⟨cz0, cz1, cz2, cz3, cz4, cz5, cz6, cz7, cz8⟩ := Pz.g9
    have lz := Pz.lt
    go_wp2_with fail
    clear cz0 cz1 cz2 cz3 cz4 cz5 cz6 cz7 cz8 lz
    refine (bookOk_spec _ Z zsz u12 IZ.out).mono ?_
    rintro e u13 ⟨rfl, hbu13⟩
    have Pb := Pb.below hbu13 Pb.lt
    have Px := Px.below hbu13 Px.lt
    have Ph := Ph.below hbu13 Ph.lt
    have Py := Py.below hbu13 Py.lt
    have Pz := Pz.below hbu13 Pz.lt
    have IB := Lib.hid (IB.out.next hbu13)
    have IX := Lib.hid (IX.out.next hbu13)
    have IH := Lib.hid (IH.out.next hbu13)
    have IZ := Lib.hid (IZ.out.next hbu13)
    have BW := belN BW hbu13
    clear hbu13
    rw [Hzok.out]
    obtain ⟨cz0, cz1, cz2, cz3, cz4, cz5, cz6, cz7, cz8⟩ := Pz.g9
    have lz := Pz.lt
    go_wp2
    go_ret
    exact ⟨rfl, BW⟩
  ·have Hok := Lib.hid hok
   have yd : (Y.df != H.df) = false := by rw [hYH, bne_self_eq_false]
   have yl : (((Y.pd.length : Nat) : Int) != ((H.pd.length : Nat) : Int)) = false := by rw [hYH, bne_self_eq_false]
   clear hok hYH
   obtain ⟨ch0, ch1, ch2, ch3, ch4, ch5, ch6, ch7, ch8⟩ := Ph.g9
   have lh := Ph.lt
   go_wp2_with fail
   clear ch0 ch1 ch2 ch3 ch4 ch5 ch6 ch7 ch8 lh
   refine (bookOk_spec _ H HszH.out.1 u11 IH.out).mono ?_
   rintro e u14 ⟨rfl, hbu14⟩
   have Pb := Pb.below hbu14 Pb.lt
   have Px := Px.below hbu14 Px.lt
   have Ph := Ph.below hbu14 Ph.lt
   have Py := Py.below hbu14 Py.lt
   have Pz := Pz.below hbu14 Pz.lt
   have IB := Lib.hid (IB.out.next hbu14)
   have IX := Lib.hid (IX.out.next hbu14)
   have IH := Lib.hid (IH.out.next hbu14)
   have IZ := Lib.hid (IZ.out.next hbu14)
   have BW := belN BW hbu14
   clear hbu14
   rw [Hok.out]
   obtain ⟨ch0, ch1, ch2, ch3, ch4, ch5, ch6, ch7, ch8⟩ := Ph.g9
   have lh := Ph.lt
   obtain ⟨cy0, cy1, cy2, cy3, cy4, cy5, cy6, cy7, cy8⟩ := Py.g9
   have ly := Py.lt
   go_upto_region 18 with fail
   clear ch0 ch1 ch2 ch3 ch4 ch5 ch6 ch7 ch8 lh cy0 cy1 cy2 cy3 cy4 cy5 cy6 cy7 cy8 ly
   clear yd yl
   rcases fall_cases HszF.out.2 HZ.out with rfl | ⟨rfl, zok, zsz, zp0, zsq⟩
   ·go_wp2
    go_ret
    exact ⟨rfl, BW⟩
   ·have ez := HZ
    clear ez
    have zp1 : (((Z.pd.length : Nat) : Int) == 0) = true := by rw [zp0]; rfl
    have zs1 : (Z.sf == Z.sq) = true := by rw [zsq]; exact beq_self_eq_true _
    have Hzok := Lib.hid zok
    clear zok zp0 zsq
    obtain ⟨cz0, cz1, cz2, cz3, cz4, cz5, cz6, cz7, cz8⟩ := Pz.g9
    have lz := Pz.lt
    go_wp2_with fail
    clear cz0 cz1 cz2 cz3 cz4 cz5 cz6 cz7 cz8 lz
    refine (bookOk_spec _ Z zsz u14 IZ.out).mono ?_
    rintro e u15 ⟨rfl, hbu15⟩
    have Pb := Pb.below hbu15 Pb.lt
    have Px := Px.below hbu15 Px.lt
    have Ph := Ph.below hbu15 Ph.lt
    have Py := Py.below hbu15 Py.lt
    have Pz := Pz.below hbu15 Pz.lt
    have IB := Lib.hid (IB.out.next hbu15)
    have IX := Lib.hid (IX.out.next hbu15)
    have IH := Lib.hid (IH.out.next hbu15)
    have IZ := Lib.hid (IZ.out.next hbu15)
    have BW := belN BW hbu15
    clear hbu15
    rw [Hzok.out]
    obtain ⟨cz0, cz1, cz2, cz3, cz4, cz5, cz6, cz7, cz8⟩ := Pz.g9
    have lz := Pz.lt
    go_wp2
    go_ret
    exact ⟨rfl, BW⟩
  ·have Hok := Lib.hid hok
   have yd : (Y.df != H.sq) = false := by rw [hy1, bne_self_eq_false]
   have ys : (Y.sf != H.sq) = false := by rw [hy2, bne_self_eq_false]
   have yl : (((Y.pd.length : Nat) : Int) != 1) = false := by rw [hy3]; rfl
   clear hok hy1 hy2 hy3
   obtain ⟨ch0, ch1, ch2, ch3, ch4, ch5, ch6, ch7, ch8⟩ := Ph.g9
   have lh := Ph.lt
   go_wp2_with fail
   clear ch0 ch1 ch2 ch3 ch4 ch5 ch6 ch7 ch8 lh
   refine (bookOk_spec _ H HszH.out.1 u11 IH.out).mono ?_
   rintro e u16 ⟨rfl, hbu16⟩
   have Pb := Pb.below hbu16 Pb.lt
   have Px := Px.below hbu16 Px.lt
   have Ph := Ph.below hbu16 Ph.lt
   have Py := Py.below hbu16 Py.lt
   have Pz := Pz.below hbu16 Pz.lt
   have IB := Lib.hid (IB.out.next hbu16)
   have IX := Lib.hid (IX.out.next hbu16)
   have IH := Lib.hid (IH.out.next hbu16)
   have IZ := Lib.hid (IZ.out.next hbu16)
   have BW := belN BW hbu16
   clear hbu16
   rw [Hok.out]
   obtain ⟨ch0, ch1, ch2, ch3, ch4, ch5, ch6, ch7, ch8⟩ := Ph.g9
   have lh := Ph.lt
   obtain ⟨cy0, cy1, cy2, cy3, cy4, cy5, cy6, cy7, cy8⟩ := Py.g9
   have ly := Py.lt
   go_upto_region 18 with fail
   clear ch0 ch1 ch2 ch3 ch4 ch5 ch6 ch7 ch8 lh cy0 cy1 cy2 cy3 cy4 cy5 cy6 cy7 cy8 ly
   clear yd yl ys
   rcases fall_cases HszF.out.2 HZ.out with rfl | ⟨rfl, zok, zsz, zp0, zsq⟩
   ·go_wp2
    go_ret
    exact ⟨rfl, BW⟩
   ·have ez := HZ
    clear ez
    have zp1 : (((Z.pd.length : Nat) : Int) == 0) = true := by rw [zp0]; rfl
    have zs1 : (Z.sf == Z.sq) = true := by rw [zsq]; exact beq_self_eq_true _
    have Hzok := Lib.hid zok
    clear zok zp0 zsq
    obtain ⟨cz0, cz1, cz2, cz3, cz4, cz5, cz6, cz7, cz8⟩ := Pz.g9
    have lz := Pz.lt
    go_wp2_with fail
    clear cz0 cz1 cz2 cz3 cz4 cz5 cz6 cz7 cz8 lz
    refine (bookOk_spec _ Z zsz u16 IZ.out).mono ?_
    rintro e u17 ⟨rfl, hbu17⟩
    have Pb := Pb.below hbu17 Pb.lt
    have Px := Px.below hbu17 Px.lt
    have Ph := Ph.below hbu17 Ph.lt
    have Py := Py.below hbu17 Py.lt
    have Pz := Pz.below hbu17 Pz.lt
    have IB := Lib.hid (IB.out.next hbu17)
    have IX := Lib.hid (IX.out.next hbu17)
    have IH := Lib.hid (IH.out.next hbu17)
    have IZ := Lib.hid (IZ.out.next hbu17)
    have BW := belN BW hbu17
    clear hbu17
    rw [Hzok.out]
    obtain ⟨cz0, cz1, cz2, cz3, cz4, cz5, cz6, cz7, cz8⟩ := Pz.g9
    have lz := Pz.lt
    go_wp2
    go_ret
    exact ⟨rfl, BW⟩
 ·have HokB := Lib.hid hok
  have HokX := Lib.hid (doBk_ok hok HX.out)
  have xsz : szBk X ≤ 1048576 := smB_sz HokX.out (doBk_small hok HszB.out.2 HX.out)
  clear hok
  obtain ⟨cb0, cb1, cb2, cb3, cb4, cb5, cb6, cb7, cb8⟩ := Pb.g9
  have lb := Pb.lt
  go_wp2_with fail
  clear cb0 cb1 cb2 cb3 cb4 cb5 cb6 cb7 cb8 lb
  refine (bookOk_spec _ B HszB.out.1 W10 IB.out).mono ?_
  rintro e u18 ⟨rfl, hbu18⟩
  have Pb := Pb.below hbu18 Pb.lt
  have Px := Px.below hbu18 Px.lt
  have Ph := Ph.below hbu18 Ph.lt
  have Py := Py.below hbu18 Py.lt
  have Pz := Pz.below hbu18 Pz.lt
  have IB := Lib.hid (IB.out.next hbu18)
  have IX := Lib.hid (IX.out.next hbu18)
  have IH := Lib.hid (IH.out.next hbu18)
  have IZ := Lib.hid (IZ.out.next hbu18)
  have BW := belN BW hbu18
  clear hbu18
  rw [HokB.out]
  obtain ⟨cx0, cx1, cx2, cx3, cx4, cx5, cx6, cx7, cx8⟩ := Px.g9
  have lx := Px.lt
  go_wp2_with fail
  clear cx0 cx1 cx2 cx3 cx4 cx5 cx6 cx7 cx8 lx
  refine (bookOk_spec _ X xsz u18 IX.out).mono ?_
  rintro e u19 ⟨rfl, hbu19⟩
  have Pb := Pb.below hbu19 Pb.lt
  have Px := Px.below hbu19 Px.lt
  have Ph := Ph.below hbu19 Ph.lt
  have Py := Py.below hbu19 Py.lt
  have Pz := Pz.below hbu19 Pz.lt
  have IB := Lib.hid (IB.out.next hbu19)
  have IX := Lib.hid (IX.out.next hbu19)
  have IH := Lib.hid (IH.out.next hbu19)
  have IZ := Lib.hid (IZ.out.next hbu19)
  have BW := belN BW hbu19
  clear hbu19
  rw [HokX.out]
  obtain ⟨cb0, cb1, cb2, cb3, cb4, cb5, cb6, cb7, cb8⟩ := Pb.g9
  have lb := Pb.lt
  go_wp2_with fail
  clear cb0 cb1 cb2 cb3 cb4 cb5 cb6 cb7 cb8 lb
  refine (bookOk_spec _ B HszB.out.1 u19 IB.out).mono ?_
  rintro e u20 ⟨rfl, hbu20⟩
  have Pb := Pb.below hbu20 Pb.lt
  have Px := Px.below hbu20 Px.lt
  have Ph := Ph.below hbu20 Ph.lt
  have Py := Py.below hbu20 Py.lt
  have Pz := Pz.below hbu20 Pz.lt
  have IB := Lib.hid (IB.out.next hbu20)
  have IX := Lib.hid (IX.out.next hbu20)
  have IH := Lib.hid (IH.out.next hbu20)
  have IZ := Lib.hid (IZ.out.next hbu20)
  have BW := belN BW hbu20
  clear hbu20
  rw [HokB.out]
  go_upto_region 16 with fail
  rcases homeBk_cases HY.out with ⟨hok, rfl⟩ | ⟨hok, rfl, hYH⟩ | ⟨hok, rfl, hy1, hy2, hy3⟩
  ·have Hok := Lib.hid hok
   clear hok
   obtain ⟨ch0, ch1, ch2, ch3, ch4, ch5, ch6, ch7, ch8⟩ := Ph.g9
   have lh := Ph.lt
   go_wp2_with fail
   clear ch0 ch1 ch2 ch3 ch4 ch5 ch6 ch7 ch8 lh
   refine (bookOk_spec _ H HszH.out.1 u20 IH.out).mono ?_
   rintro e u21 ⟨rfl, hbu21⟩
   have Pb := Pb.below hbu21 Pb.lt
   have Px := Px.below hbu21 Px.lt
   have Ph := Ph.below hbu21 Ph.lt
   have Py := Py.below hbu21 Py.lt
   have Pz := Pz.below hbu21 Pz.lt
   have IB := Lib.hid (IB.out.next hbu21)
   have IX := Lib.hid (IX.out.next hbu21)
   have IH := Lib.hid (IH.out.next hbu21)
   have IZ := Lib.hid (IZ.out.next hbu21)
   have BW := belN BW hbu21
   clear hbu21
   rw [Hok.out]
   go_upto_region 18 with fail
   rcases fall_cases HszF.out.2 HZ.out with rfl | ⟨rfl, zok, zsz, zp0, zsq⟩
   ·go_wp2
    go_ret
    exact ⟨rfl, BW⟩
   ·have ez := HZ
    clear ez
    have zp1 : (((Z.pd.length : Nat) : Int) == 0) = true := by rw [zp0]; rfl
    have zs1 : (Z.sf == Z.sq) = true := by rw [zsq]; exact beq_self_eq_true _
    have Hzok := Lib.hid zok
    clear zok zp0 zsq
    obtain ⟨cz0, cz1, cz2, cz3, cz4, cz5, cz6, cz7, cz8⟩ := Pz.g9
    have lz := Pz.lt
    go_wp2_with fail
    clear cz0 cz1 cz2 cz3 cz4 cz5 cz6 cz7 cz8 lz
    refine (bookOk_spec _ Z zsz u21 IZ.out).mono ?_
    rintro e u22 ⟨rfl, hbu22⟩
    have Pb := Pb.below hbu22 Pb.lt
    have Px := Px.below hbu22 Px.lt
    have Ph := Ph.below hbu22 Ph.lt
    have Py := Py.below hbu22 Py.lt
    have Pz := Pz.below hbu22 Pz.lt
    have IB := Lib.hid (IB.out.next hbu22)
    have IX := Lib.hid (IX.out.next hbu22)
    have IH := Lib.hid (IH.out.next hbu22)
    have IZ := Lib.hid (IZ.out.next hbu22)
    have BW := belN BW hbu22
    clear hbu22
    rw [Hzok.out]
    obtain ⟨cz0, cz1, cz2, cz3, cz4, cz5, cz6, cz7, cz8⟩ := Pz.g9
    have lz := Pz.lt
    go_wp2
    go_ret
    exact ⟨rfl, BW⟩
  ·have Hok := Lib.hid hok
   have yd : (Y.df != H.df) = false := by rw [hYH, bne_self_eq_false]
   have yl : (((Y.pd.length : Nat) : Int) != ((H.pd.length : Nat) : Int)) = false := by rw [hYH, bne_self_eq_false]
   clear hok hYH
   obtain ⟨ch0, ch1, ch2, ch3, ch4, ch5, ch6, ch7, ch8⟩ := Ph.g9
   have lh := Ph.lt
   go_wp2_with fail
   clear ch0 ch1 ch2 ch3 ch4 ch5 ch6 ch7 ch8 lh
   refine (bookOk_spec _ H HszH.out.1 u20 IH.out).mono ?_
   rintro e u23 ⟨rfl, hbu23⟩
   have Pb := Pb.below hbu23 Pb.lt
   have Px := Px.below hbu23 Px.lt
   have Ph := Ph.below hbu23 Ph.lt
   have Py := Py.below hbu23 Py.lt
   have Pz := Pz.below hbu23 Pz.lt
   have IB := Lib.hid (IB.out.next hbu23)
   have IX := Lib.hid (IX.out.next hbu23)
   have IH := Lib.hid (IH.out.next hbu23)
   have IZ := Lib.hid (IZ.out.next hbu23)
   have BW := belN BW hbu23
   clear hbu23
   rw [Hok.out]
   obtain ⟨ch0, ch1, ch2, ch3, ch4, ch5, ch6, ch7, ch8⟩ := Ph.g9
   have lh := Ph.lt
   obtain ⟨cy0, cy1, cy2, cy3, cy4, cy5, cy6, cy7, cy8⟩ := Py.g9
   have ly := Py.lt
   go_upto_region 18 with fail
   clear ch0 ch1 ch2 ch3 ch4 ch5 ch6 ch7 ch8 lh cy0 cy1 cy2 cy3 cy4 cy5 cy6 cy7 cy8 ly
   clear yd yl
   rcases fall_cases HszF.out.2 HZ.out with rfl | ⟨rfl, zok, zsz, zp0, zsq⟩
   ·go_wp2
    go_ret
    exact ⟨rfl, BW⟩
   ·have ez := HZ
    clear ez
    have zp1 : (((Z.pd.length : Nat) : Int) == 0) = true := by rw [zp0]; rfl
    have zs1 : (Z.sf == Z.sq) = true := by rw [zsq]; exact beq_self_eq_true _
    have Hzok := Lib.hid zok
    clear zok zp0 zsq
    obtain ⟨cz0, cz1, cz2, cz3, cz4, cz5, cz6, cz7, cz8⟩ := Pz.g9
    have lz := Pz.lt
    go_wp2_with fail
    clear cz0 cz1 cz2 cz3 cz4 cz5 cz6 cz7 cz8 lz
    refine (bookOk_spec _ Z zsz u23 IZ.out).mono ?_
    rintro e u24 ⟨rfl, hbu24⟩
    have Pb := Pb.below hbu24 Pb.lt
    have Px := Px.below hbu24 Px.lt
    have Ph := Ph.below hbu24 Ph.lt
    have Py := Py.below hbu24 Py.lt
    have Pz := Pz.below hbu24 Pz.lt
    have IB := Lib.hid (IB.out.next hbu24)
    have IX := Lib.hid (IX.out.next hbu24)
    have IH := Lib.hid (IH.out.next hbu24)
    have IZ := Lib.hid (IZ.out.next hbu24)
    have BW := belN BW hbu24
    clear hbu24
    rw [Hzok.out]
    obtain ⟨cz0, cz1, cz2, cz3, cz4, cz5, cz6, cz7, cz8⟩ := Pz.g9
    have lz := Pz.lt
    go_wp2
    go_ret
    exact ⟨rfl, BW⟩
  ·have Hok := Lib.hid hok
   have yd : (Y.df != H.sq) = false := by rw [hy1, bne_self_eq_false]
   have ys : (Y.sf != H.sq) = false := by rw [hy2, bne_self_eq_false]
   have yl : (((Y.pd.length : Nat) : Int) != 1) = false := by rw [hy3]; rfl
   clear hok hy1 hy2 hy3
   obtain ⟨ch0, ch1, ch2, ch3, ch4, ch5, ch6, ch7, ch8⟩ := Ph.g9
   have lh := Ph.lt
   go_wp2_with fail
   clear ch0 ch1 ch2 ch3 ch4 ch5 ch6 ch7 ch8 lh
   refine (bookOk_spec _ H HszH.out.1 u20 IH.out).mono ?_
   rintro e u25 ⟨rfl, hbu25⟩
   have Pb := Pb.below hbu25 Pb.lt
   have Px := Px.below hbu25 Px.lt
   have Ph := Ph.below hbu25 Ph.lt
   have Py := Py.below hbu25 Py.lt
   have Pz := Pz.below hbu25 Pz.lt
   have IB := Lib.hid (IB.out.next hbu25)
   have IX := Lib.hid (IX.out.next hbu25)
   have IH := Lib.hid (IH.out.next hbu25)
   have IZ := Lib.hid (IZ.out.next hbu25)
   have BW := belN BW hbu25
   clear hbu25
   rw [Hok.out]
   obtain ⟨ch0, ch1, ch2, ch3, ch4, ch5, ch6, ch7, ch8⟩ := Ph.g9
   have lh := Ph.lt
   obtain ⟨cy0, cy1, cy2, cy3, cy4, cy5, cy6, cy7, cy8⟩ := Py.g9
   have ly := Py.lt
   go_upto_region 18 with fail
   clear ch0 ch1 ch2 ch3 ch4 ch5 ch6 ch7 ch8 lh cy0 cy1 cy2 cy3 cy4 cy5 cy6 cy7 cy8 ly
   clear yd yl ys
   rcases fall_cases HszF.out.2 HZ.out with rfl | ⟨rfl, zok, zsz, zp0, zsq⟩
   ·go_wp2
    go_ret
    exact ⟨rfl, BW⟩
   ·have ez := HZ
    clear ez
    have zp1 : (((Z.pd.length : Nat) : Int) == 0) = true := by rw [zp0]; rfl
    have zs1 : (Z.sf == Z.sq) = true := by rw [zsq]; exact beq_self_eq_true _
    have Hzok := Lib.hid zok
    clear zok zp0 zsq
    obtain ⟨cz0, cz1, cz2, cz3, cz4, cz5, cz6, cz7, cz8⟩ := Pz.g9
    have lz := Pz.lt
    go_wp2_with fail
    clear cz0 cz1 cz2 cz3 cz4 cz5 cz6 cz7 cz8 lz
    refine (bookOk_spec _ Z zsz u25 IZ.out).mono ?_
    rintro e u26 ⟨rfl, hbu26⟩
    have Pb := Pb.below hbu26 Pb.lt
    have Px := Px.below hbu26 Px.lt
    have Ph := Ph.below hbu26 Ph.lt
    have Py := Py.below hbu26 Py.lt
    have Pz := Pz.below hbu26 Pz.lt
    have IB := Lib.hid (IB.out.next hbu26)
    have IX := Lib.hid (IX.out.next hbu26)
    have IH := Lib.hid (IH.out.next hbu26)
    have IZ := Lib.hid (IZ.out.next hbu26)
    have BW := belN BW hbu26
    clear hbu26
    rw [Hzok.out]
    obtain ⟨cz0, cz1, cz2, cz3, cz4, cz5, cz6, cz7, cz8⟩ := Pz.g9
    have lz := Pz.lt
    go_wp2
    go_ret
    exact ⟨rfl, BW⟩

end Go.Proofs.YtghgafbfpejinaaGreatDoor
