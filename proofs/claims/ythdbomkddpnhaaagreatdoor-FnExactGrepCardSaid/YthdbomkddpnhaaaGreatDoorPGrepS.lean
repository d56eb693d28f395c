/- Grep of the reference. -/
import Derived.Test.YthdbomkddpnhaaaGreatDoorPAllG
import Derived.Test.YthdbomkddpnhaaaGreatDoorPTarV
import Derived.Test.YthdbomkddpnhaaaGreatDoorPFindC
import Derived.Test.YthdbomkddpnhaaaGreatDoorPGrepW
namespace Go.Proofs.YthdbomkddpnhaaaGreatDoor
open Go Go.RowKit

set_option maxRecDepth 100000 in
set_option maxHeartbeats 4000000 in
theorem grep_spec_yes (v : Value) (V : VolD) (sm : szV V ≤ 1048576) (s : ByteArray) (hs : s.size ≤ 2000000) (p : ByteArray) (hp : p.size ≤ 2000000) (hp0 : p.size ≠ 0) (w : World) (hT : Tab w) (hC : IsVolC w v V) :
  Calls Tryz.prog 44 #[v, .string s, .string p] w (ListPost w (soughtW V s true fun _ x => grepB p x)) := by
 have Hcur := Lib.hid (fun W hW => curOpen_spec v V sm s hs W hW)
 have Hf := Lib.hid (fun hv x hx hd W b1 u o hb ho hT hW hO => l28g_all v V sm hv p hp hp0 _ x hx hd (Nat.le_refl _) ⟨#[]⟩ (Nat.zero_le _) W b1 u o hb ho hT hW hO)
 have hp1 := (some_yes hp0).1
 have hp2 : ¬ p.toList = [] := by intro e; rw [e] at hp1; cases hp1
 have Hlen := Lib.hid (fun hv x hx hd => fndT_len (nx := V.nx) (xs := V.xs) hv (fun _ x => grepB p x) (x := x) hx hd ⟨#[]⟩)
 have Hz := Lib.hid (cur_zero (V := V) (s := s))
 have Hbad := Lib.hid (fun ok => sought_bad (V := V) (s := s) (ok := ok) (P := fun _ x => grepB p x))
 have Hno := Lib.hid (sought_no (V := V) (s := s) (P := fun _ x => grepB p x))
 have Hgood := Lib.hid (sought_ok (V := V) (s := s) (P := fun _ x => grepB p x))
 have hvv := Lib.hid hC
 have HT := Lib.hid hT
 obtain ⟨A, c, rfl, _⟩ := hC
 obtain ⟨nx, xs⟩ := V
 simp only at Hcur Hf Hlen Hz Hgood ⊢
 clear sm hT
 obtain ⟨Q, hQ⟩ : ∃ Q, curP ⟨nx, xs⟩ s = Q := ⟨_, rfl⟩
 simp only [hQ] at Hcur Hz Hbad Hgood Hno
 clear hQ
 obtain ⟨P, hP⟩ : ∃ P : EntD → InoD → Bool, (fun _ x => grepB p x) = P := ⟨_, rfl⟩
 rw [hP] at Hno Hgood Hlen Hf ⊢
 have Hbad := Lib.hid (fun ok => by have := Hbad.out ok; rw [hP] at this; exact this)
 clear hP
 obtain ⟨W1, hW1⟩ : ∃ W1, w.alloc (.cells #[.int .i64 nx, .slice A xs.length c] 30) = W1 := ⟨_, rfl⟩
 have B1 : Below w.heap.size w W1 := by rw [← hW1]; exact belA (bel0 w) _
 have hV : Blk W1 w.heap.size 30 #[.int .i64 nx, .slice A xs.length c] := by rw [← hW1]; exact Blk.new' _ _ _ _ rfl
 have HW1 := Lib.hid hW1
 have V0 := Lib.hid (hV.get (x := .int .i64 nx) 0 rfl)
 have V1 := Lib.hid (hV.get (x := .slice A xs.length c) 1 rfl)
 clear hW1 hV
 go_enter Tryz.func44, Tryz.ntmps44
 go_wp2_with fail
 rw [HW1.out]
 refine (Hcur.out W1 (hvv.out.next B1)).mono ?_
 rintro e w2 ⟨⟨E, code, hE, rfl⟩, hb2⟩
 subst hE
 obtain ⟨d, h, i⟩ := E
 simp only at Hz Hbad Hgood Hno
 have B2 := belN B1 hb2
 obtain ⟨w4, hw4⟩ : ∃ W, w2.alloc (.cells #[.int .i64 d, .int .i64 h, .int .i64 i] 35) = W := ⟨_, rfl⟩
 have b4 : Below w2.heap.size w2 w4 := by rw [← hw4]; exact belA (bel0 _) _
 have hcu : Blk w4 w2.heap.size 35 #[.int .i64 d, .int .i64 h, .int .i64 i] := by rw [← hw4]; exact Blk.new' _ _ _ _ rfl
 go_upto_region 2 with fail
 try rw [hw4]
 clear hw4
 have v0 := keep1 (belN hb2 b4) V0.out (Nat.le_refl _)
 have v1 := keep1 (belN hb2 b4) V1.out (Nat.le_refl _)
 have v2 := hcu.get (x := .int .i64 d) 0 rfl
 have B4 := belN B2 b4
 by_cases hc : code = 0
 ·subst hc
  obtain ⟨hv, x, hx, hd, hid⟩ := Hz.out rfl
  have Ht := Lib.hid (fun W b1 u o hb ho hT hW hO => Hf.out hv x hx hd W b1 u o hb ho hT hW hO)
  have hln := Hlen.out hv x hx hd
  simp only [hid] at Ht hln
  have Hg := Lib.hid (Hgood.out rfl)
  clear hx hd hid hv
  obtain ⟨T1, hT1⟩ : ∃ T1, fndT xs P d ⟨#[]⟩ = T1 := ⟨_, rfl⟩
  simp only [hT1] at Ht Hg hln
  have Hg := Lib.hid (show soughtW ⟨nx, xs⟩ s true P = (T1.foldl putT [], 0) by rw [Hg.out, sortS_put])
  clear hT1 Hgood Hbad Hz Hf Hno Hlen
  have B6 := belA B4 (.cells #[] 9)
  go_wp2_with (first | (go_at_call 104; refine (Ht.out _ w.heap.size _ [] B6.size (by simp; omega) (HT.out.bl B6) (hvv.out.next B6) (own_more (World.ownsRow_lit w4 #[] 0 (Nat.le_refl _) (by unfold maxLen; omega) rfl) B4.size)).mono ?_; rintro e w7 ⟨u7, rfl, own7, hb7⟩; have B7 := belN B6 hb7))
  go_wp2
  refine bodyPost_ret (v := .tuple #[u7, .int .i64 0]) (by simp [results, Tryz.results44, go_sem]) rfl (list_end (l := T1.foldl putT []) Hg.out rfl ?_ own7)
  repeat (first | exact B7 | refine belA ?_ _ | apply Below.drew)
 ·have Hg := Lib.hid (Hbad.out true hc)
  have hc1 : (code != 0) = true := by simpa using hc
  clear hc Hgood Hbad Hz Hf Hno Hlen
  go_wp2
  refine bodyPost_ret (v := .tuple #[.slice (some ⟨w4.heap.size, 0, none⟩) 0 0, .int .i64 code]) (by simp [results, Tryz.results44, go_sem]) rfl (list_end (l := []) (n := 0) Hg.out rfl ?_ (own_more (World.ownsRow_lit w4 #[] 0 (Nat.le_refl _) (by unfold maxLen; omega) rfl) B4.size))
  repeat (first | exact B4 | refine belA ?_ _ | apply Below.drew)

set_option maxRecDepth 100000 in
set_option maxHeartbeats 4000000 in
theorem grep_spec_no (v : Value) (V : VolD) (sm : szV V ≤ 1048576) (s : ByteArray) (hs : s.size ≤ 2000000) (P : EntD → InoD → Bool) (w : World) (hC : IsVolC w v V) :
  Calls Tryz.prog 44 #[v, .string s, .string ⟨#[]⟩] w (ListPost w (soughtW V s false P)) := by
 have Hcur := Lib.hid (fun W hW => curOpen_spec v V sm s hs W hW)
 have Hbad := Lib.hid (fun ok => sought_bad (V := V) (s := s) (ok := ok) (P := P))
 have Hno := Lib.hid (sought_no (V := V) (s := s) (P := P))
 have hvv := Lib.hid hC
 obtain ⟨A, c, rfl, _⟩ := hC
 obtain ⟨nx, xs⟩ := V
 simp only at Hcur ⊢
 clear sm
 obtain ⟨Q, hQ⟩ : ∃ Q, curP ⟨nx, xs⟩ s = Q := ⟨_, rfl⟩
 simp only [hQ] at Hcur Hbad Hno
 clear hQ
 obtain ⟨W1, hW1⟩ : ∃ W1, w.alloc (.cells #[.int .i64 nx, .slice A xs.length c] 30) = W1 := ⟨_, rfl⟩
 have B1 : Below w.heap.size w W1 := by rw [← hW1]; exact belA (bel0 w) _
 have hV : Blk W1 w.heap.size 30 #[.int .i64 nx, .slice A xs.length c] := by rw [← hW1]; exact Blk.new' _ _ _ _ rfl
 have HW1 := Lib.hid hW1
 have V0 := Lib.hid (hV.get (x := .int .i64 nx) 0 rfl)
 have V1 := Lib.hid (hV.get (x := .slice A xs.length c) 1 rfl)
 clear hW1 hV
 go_enter Tryz.func44, Tryz.ntmps44
 go_wp2_with fail
 rw [HW1.out]
 refine (Hcur.out W1 (hvv.out.next B1)).mono ?_
 rintro e w2 ⟨⟨E, code, hE, rfl⟩, hb2⟩
 subst hE
 obtain ⟨d, h, i⟩ := E
 simp only at Hbad Hno
 have B2 := belN B1 hb2
 obtain ⟨w4, hw4⟩ : ∃ W, w2.alloc (.cells #[.int .i64 d, .int .i64 h, .int .i64 i] 35) = W := ⟨_, rfl⟩
 have b4 : Below w2.heap.size w2 w4 := by rw [← hw4]; exact belA (bel0 _) _
 have hcu : Blk w4 w2.heap.size 35 #[.int .i64 d, .int .i64 h, .int .i64 i] := by rw [← hw4]; exact Blk.new' _ _ _ _ rfl
 go_upto_region 2 with fail
 try rw [hw4]
 clear hw4
 have v0 := keep1 (belN hb2 b4) V0.out (Nat.le_refl _)
 have v1 := keep1 (belN hb2 b4) V1.out (Nat.le_refl _)
 have v2 := hcu.get (x := .int .i64 d) 0 rfl
 have B4 := belN B2 b4
 by_cases hc : code = 0
 ·subst hc
  have Hg := Lib.hid (Hno.out rfl)
  clear Hno Hbad
  go_wp2
  refine bodyPost_ret (v := .tuple #[.slice (some ⟨w4.heap.size, 0, none⟩) 0 0, .int .i64 1]) (by simp [results, Tryz.results44, go_sem]) rfl (list_end (l := []) (n := 0) Hg.out rfl ?_ (own_more (World.ownsRow_lit w4 #[] 0 (Nat.le_refl _) (by unfold maxLen; omega) rfl) B4.size))
  repeat (first | exact B4 | refine belA ?_ _ | apply Below.drew)
 ·have Hg := Lib.hid (Hbad.out false hc)
  have hc1 : (code != 0) = true := by simpa using hc
  clear hc Hbad Hno
  go_wp2
  refine bodyPost_ret (v := .tuple #[.slice (some ⟨w4.heap.size, 0, none⟩) 0 0, .int .i64 code]) (by simp [results, Tryz.results44, go_sem]) rfl (list_end (l := []) (n := 0) Hg.out rfl ?_ (own_more (World.ownsRow_lit w4 #[] 0 (Nat.le_refl _) (by unfold maxLen; omega) rfl) B4.size))
  repeat (first | exact B4 | refine belA ?_ _ | apply Below.drew)

theorem grepW_len {V : VolD} (s t : ByteArray) : (grepW V s t).1.length ≤ 10000000 := soughtW_len s _ _
theorem grep_spec2 (v : Value) (V : VolD) (sm : szV V ≤ 1048576) (s t : ByteArray) (hs : s.size ≤ 2000000) (ht : t.size ≤ 2000000) (w : World) (hT : TabM w) (hC : IsVolC w v V) :
  Calls Tryz.prog 44 #[v, .string s, .string t] w (ListPost w (grepW V s t)) := by
 unfold grepW
 by_cases h : t.size = 0
 ·rw [(some_no h).2]
  obtain ⟨rfl, _⟩ := some_no h
  exact grep_spec_no v V sm s hs _ w hC
 ·rw [(some_yes h).2]; exact grep_spec_yes v V sm s hs t ht h w hT.tab hC

end Go.Proofs.YthdbomkddpnhaaaGreatDoor

