/- Grep of the program: what stands below and has a text in it, sorted. -/
import Derived.Test.YthdbomkddpnhaaaGreatDoorPTarV
import Derived.Test.YthdbomkddpnhaaaGreatDoorPFindC
import Derived.Test.YthdbomkddpnhaaaGreatDoorPGrepI
namespace Go.Proofs.YthdbomkddpnhaaaGreatDoor
open Go Go.RowKit

theorem found_grep_all (v : Value) (V : VolD) (sm : szV V ≤ 1048576) (hv : VolP V.nx V.xs) (p : ByteArray) (hp : p.size ≤ 2000000) (B : Nat) : ∀ (d : Nat) (x : InoD), x ∈ V.xs → x.kd = 2 → 16 - dpt V.xs x.id ≤ d → ∀ (pre : ByteArray), pre.size ≤ 25 * dpt V.xs x.id → ∀ W, TabM W → IsVolC W v V → W.cell? ⟨B, 0, none⟩ = some (.string p) →
  Calls Tryz.prog 180 #[v, .int .i64 x.id, .string pre, .func (.func 109) #[] #[.pointer (some ⟨B, 0, none⟩)]] W (FPost W (fndT V.xs (fun _ x => grepB p x) x.id pre))
 | 0, x, hx, hd, h, pre, hpre, W, hT, hW, hB => by have := dpt_short hv (a := x.id) ⟨x, hx, rfl, hd⟩; omega
 | d + 1, x, hx, hd, h, pre, hpre, W, hT, hW, hB => by
  obtain ⟨k, hk, rfl⟩ := List.getElem_of_mem hx
  have hpl := plc_own hv.grow hk
  have his := fndT_is hv (fun _ x => grepB p x) hx hd pre
  have hs := dpt_short hv (a := V.xs[k].id) ⟨_, hx, rfl, hd⟩
  rw [his]
  refine found_grep_gen v V sm hv p hp (fndT V.xs (fun _ x => grepB p x)) _ k hk hpl pre (by omega) B (fun y hy hyd t => fndT_len hv _ hy hyd t) (by rw [← his]; exact fndT_len hv _ hx hd pre) (fun i hi j hj hpj hjd W2 hT2 hW2 hB2 => ?_) W hT hW hB
  have hid := plc_inj hj hpj
  have hkd := kid_deep hv hx (List.getElem_mem hi) (List.getElem_mem hj) hjd hid
  have hnm := es_name hv hx (List.getElem_mem hi)
  exact found_grep_all v V sm hv p hp B d _ (List.getElem_mem hj) hjd (by omega) _ (by simp only [ByteArray.size_append]; have : (str [47]).size = 1 := rfl; omega) W2 hT2 hW2 hB2

set_option maxRecDepth 100000 in
set_option maxHeartbeats 4000000 in
theorem sought_grep (v : Value) (V : VolD) (sm : szV V ≤ 1048576) (s : ByteArray) (hs : s.size ≤ 2000000) (ok : Bool) (p : ByteArray) (hp : p.size ≤ 2000000) (B : Nat) (w : World) (hT : TabM w) (hC : IsVolC w v V) (hB : w.cell? ⟨B, 0, none⟩ = some (.string p)) :
  Calls Tryz.prog 105 #[v, .string s, .bool ok, .func (.func 109) #[] #[.pointer (some ⟨B, 0, none⟩)]] w (ListPost w (soughtW V s ok fun _ x => grepB p x)) := by
 have Hcur := Lib.hid (fun W (hT : TabM W) hW => curOpen_impl v V sm s hs W hT.tab hW)
 have Hf := Lib.hid (fun hv x hx hd W hT hW hB => found_grep_all v V sm hv p hp B _ x hx hd (Nat.le_refl _) ⟨#[]⟩ (Nat.zero_le _) W hT hW hB)
 have Hlen := Lib.hid (fun hv x hx hd => fndT_len (nx := V.nx) (xs := V.xs) hv (fun _ x => grepB p x) (x := x) hx hd ⟨#[]⟩)
 have Hz := Lib.hid (cur_zero (V := V) (s := s))
 have Hbad := Lib.hid (fun ok => sought_bad (V := V) (s := s) (ok := ok) (P := fun _ x => grepB p x))
 have Hno := Lib.hid (sought_no (V := V) (s := s) (P := fun _ x => grepB p x))
 have Hgood := Lib.hid (sought_ok (V := V) (s := s) (P := fun _ x => grepB p x))
 have hvv := Lib.hid hC
 have HT := Lib.hid hT
 have HB := Lib.hid hB
 obtain ⟨A, c, rfl, _⟩ := hC
 obtain ⟨nx, xs⟩ := V
 simp only at Hcur Hf Hlen Hz Hgood ⊢
 clear sm hT hB
 obtain ⟨Q, hQ⟩ : ∃ Q, curP ⟨nx, xs⟩ s = Q := ⟨_, rfl⟩
 simp only [hQ] at Hcur Hz Hbad Hgood Hno
 clear hQ
 obtain ⟨P, hP⟩ : ∃ P : EntD → InoD → Bool, (fun _ x => grepB p x) = P := ⟨_, rfl⟩
 rw [hP] at Hno Hgood Hlen Hf ⊢
 have Hbad := Lib.hid (fun ok => by have := Hbad.out ok; rw [hP] at this; exact this)
 clear hP
 obtain ⟨W1, hW1⟩ : ∃ W1, w.alloc (.cells #[.int .i64 nx, .slice A xs.length c] 30) = W1 := ⟨_, rfl⟩
 have B1 : Below w.heap.size w W1 := by rw [← hW1]; exact belA (bel0 w) _
 have hV : Blk W1 w.heap.size 30 #[.int .i64 nx, .slice A xs.length c] := by rw [← hW1]; exact Blk.new' _ _ _ _ rfl
 have HW1 := Lib.hid hW1
 have V0 := Lib.hid (hV.get (x := .int .i64 nx) 0 rfl)
 have V1 := Lib.hid (hV.get (x := .slice A xs.length c) 1 rfl)
 clear hW1 hV
 go_enter Tryz.func105, Tryz.ntmps105
 go_wp2_with fail
 rw [HW1.out]
 refine (Hcur.out W1 (HT.out.bl B1) (hvv.out.next B1)).mono ?_
 rintro e w2 ⟨⟨E, code, hE, rfl⟩, hb2⟩
 subst hE
 obtain ⟨d, h, i⟩ := E
 simp only at Hz Hbad Hgood Hno
 have B2 := belN B1 hb2
 have v0 := keep1 hb2 V0.out (Nat.le_refl _)
 have v1 := keep1 hb2 V1.out (Nat.le_refl _)
 by_cases hc : code = 0
 ·subst hc
  obtain ⟨hv, x, hx, hd, hid⟩ := Hz.out rfl
  cases ok
  case false =>
   have Hg := Lib.hid (Hno.out rfl)
   clear Hno Hgood Hbad Hz Hf Hlen hx hd hid hv
   go_wp2
   refine bodyPost_ret (v := .tuple #[.slice none 0 0, .int .i64 1]) (by simp [results, Tryz.results105, go_sem]) rfl (list_end (l := []) (n := 0) Hg.out rfl ?_ (own_nilC _ _ _ _))
   repeat (first | exact B2 | refine belA ?_ _ | apply Below.drew)
  case true =>
   have Ht := Lib.hid (fun W hT hW hB => Hf.out hv x hx hd W hT hW hB)
   have hln := Hlen.out hv x hx hd
   simp only [hid] at Ht hln
   have Hg := Lib.hid (Hgood.out rfl)
   clear hx hd hid hv
   obtain ⟨T1, hT1⟩ : ∃ T1, fndT xs P d ⟨#[]⟩ = T1 := ⟨_, rfl⟩
   simp only [hT1] at Ht Hg hln
   clear hT1 Hgood Hbad Hz Hf Hno Hlen
   obtain ⟨w4, hw4⟩ : ∃ W, w2.alloc (.cells #[.int .i64 d, .int .i64 h, .int .i64 i] 35) = W := ⟨_, rfl⟩
   have b4 : Below w2.heap.size w2 w4 := by rw [← hw4]; exact belA (bel0 _) _
   have hcu : Blk w4 w2.heap.size 35 #[.int .i64 d, .int .i64 h, .int .i64 i] := by rw [← hw4]; exact Blk.new' _ _ _ _ rfl
   go_upto_region 6 with fail
   try rw [hw4]
   clear hw4
   have z0 := keep1 b4 v0 (Nat.le_refl _)
   have z1 := keep1 b4 v1 (Nat.le_refl _)
   have z2 := hcu.get (x := .int .i64 d) 0 rfl
   have B4 := belN B2 b4
   clear v0 v1 hcu
   go_wp2_with fail
   refine (Ht.out w4 (HT.out.bl B4) (hvv.out.next B4) (keep1 B4 HB.out (Nat.le_refl _))).mono ?_
   rintro e w3 ⟨u, rfl, hu, own3, hb3⟩
   have Own3 := Lib.hid own3
   have Hu := Lib.hid hu
   clear own3 hu
   go_wp2_with (go_at_call 181; refine (sortS_own T1 Own3.out Hu.out (by omega)).mono ?_; rintro e w6 ⟨rfl, own6, hg6⟩; have B6 := belN B4 (hb3.trans (below_grownBy Own3.out hg6 hb3.size)); have Own6 := Lib.hid (own_more own6 B4.size); clear own6 hg6)
   go_wp2
   refine bodyPost_ret (v := .tuple #[u, .int .i64 0]) (by simp [results, Tryz.results105, go_sem]) rfl (list_end (l := sortS T1) (n := T1.length) Hg.out (sortS_len _).symm ?_ Own6.out)
   repeat (first | exact B6 | refine belA ?_ _ | apply Below.drew)
 ·have Hg := Lib.hid (Hbad.out ok hc)
  have hc1 : (code != 0) = true := by simpa using hc
  clear hc Hgood Hbad Hz Hf Hno Hlen
  go_wp2
  refine bodyPost_ret (v := .tuple #[.slice none 0 0, .int .i64 code]) (by simp [results, Tryz.results105, go_sem]) rfl (list_end (l := []) (n := 0) Hg.out rfl ?_ (own_nilC _ _ _ _))
  repeat (first | exact B2 | refine belA ?_ _ | apply Below.drew)

end Go.Proofs.YthdbomkddpnhaaaGreatDoor

