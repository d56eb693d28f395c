/- Add: the program's and the reference's. -/
import Derived.Test.YtghgafbfpejinaaGreatDoorRChg
namespace Go.Proofs.YtghgafbfpejinaaGreatDoor
open Go Go.RowKit

set_option maxHeartbeats 1000000 in
theorem add_clo (e : EntD) (B : Nat) (h k : Int) (s : ByteArray) (d : Int) (w : World) (hB : Blk w B 66 #[.int .i64 h, .int .i64 k, .string s, .int .i64 d]) :
  Calls Tryz.prog 106 #[.agg #[.int .i64 e.h, .int .i64 e.i, .string e.s, .int .i64 e.d], .pointer (some ⟨B, 0, none⟩)] w fun r w' => r = .returned (.bool (isPl h k e)) ∧ Below w.heap.size w w' := by
 have c0 := hB.get (x := .int .i64 h) 0 rfl
 have c1 := hB.get (x := .int .i64 k) 1 rfl
 have hlt := hB.lt
 clear hB
 by_cases h1 : e.h = h
 ·subst h1
  by_cases h2 : e.i = k
  ·subst h2
   go_enter Tryz.func106, Tryz.ntmps106
   go_wp2
   go_ret
   exact ⟨ret_bool (by simp [isPl]), belA (bel0 w) _⟩
  ·have t2 : (e.i == k) = false := by simpa using h2
   go_enter Tryz.func106, Tryz.ntmps106
   go_wp2
   go_ret
   exact ⟨ret_bool (by simp [isPl, h2]), belA (bel0 w) _⟩
 ·have t1 : (e.h == h) = false := by simpa using h1
  go_enter Tryz.func106, Tryz.ntmps106
  go_wp2
  go_ret
  exact ⟨ret_bool (by simp [isPl, h1]), belA (bel0 w) _⟩

set_option maxRecDepth 100000 in
set_option maxHeartbeats 2000000 in
theorem indexFunc_add (p : EntD → Bool) (cap : Value) (A : Option Addr) (n c : Nat) (ds : List EntD) (hn : n ≤ 9223372036854775807) (w : World) (hr : Reads w w.heap.size 4 A n (ES ds))
  (hcl : ∀ W, Below w.heap.size w W → ∀ e ∈ ds, Calls Tryz.prog 106 #[.agg #[.int .i64 e.h, .int .i64 e.i, .string e.s, .int .i64 e.d], cap] W fun r w' => r = .returned (.bool (p e)) ∧ Below W.heap.size W w') :
  Calls Tryz.prog 122 #[.slice A n c, .func (.func 106) #[] #[cap]] w fun e w' => ∃ r : Int, e = .returned (.int .i64 r) ∧ IdxE ds p r ∧ Below w.heap.size w w' := by
 have hl : ds.length = n := by have := hr.1; rw [ES_length] at this; omega
 have Hr := Lib.hid hr
 have HL := Lib.hid hl
 have Hcl := Lib.hid hcl
 clear hr hl hcl
 go_enter Tryz.func122, Tryz.ntmps122
 go_wp2
 go_loopw [8] (fun i wr => ∃ (k : Nat), k ≤ n ∧ i = .int .i64 k ∧ Hid ((ds.take k).find? p = none) ∧ Below w.heap.size w wr)
  (fun i _ => n - (intOf i).toNat)
 case atStart => exact ⟨0, by omega, rfl, by simp [Hid], bel0 w⟩
 case round =>
  obtain ⟨k, hk, rfl, hnone, hbel⟩ := hrel
  by_cases hlt : k < n
  ·obtain ⟨hkx, b, o, rfl, hadb, z0, z1, z2, z3⟩ := reads_ent (Hr.out.below hbel) hlt
   have q0 : (0 : Int) ≤ ↑k := by omega
   have q1 : (↑k : Int) < ↑n := by omega
   have hts := Lib.hid (List.take_succ_eq_append_getElem hkx)
   have hdr := Lib.hid (show ds = ds.take k ++ ds[k] :: ds.drop (k + 1) by rw [← List.drop_eq_getElem_cons hkx, List.take_append_drop])
   have hck := Lib.hid (Hcl.out wr hbel ds[k] (List.getElem_mem hkx))
   obtain ⟨e, he⟩ : ∃ e, ds[k] = e := ⟨_, rfl⟩
   have He := Lib.hid he
   rw [he] at z0 z1 z2 z3 hts hdr hck
   clear he
   rcases hp : p e with _ | _
   ·have Hm := Lib.hid (find_miss (p := p) hnone.out hp)
    have Hp := Lib.hid hp
    clear hp
    go_wp2_with fail
    refine hck.out.mono ?_
    rintro r w2 ⟨rfl, hb2⟩
    rw [Hp.out]
    go_wp2
    go_roundw
    case rel => exact ⟨k + 1, by omega, by go_num, by show _ = _; rw [hts.out]; exact Hm.out, belN hbel hb2⟩
    case measure => simp [intOf]; omega
   ·have Hf := Lib.hid (show ds.find? p = some e by rw [hdr.out]; exact find_hit (p := p) hnone.out hp)
    have Hp := Lib.hid hp
    clear hp
    go_wp2_with fail
    refine hck.out.mono ?_
    rintro r w2 ⟨rfl, hb2⟩
    rw [Hp.out]
    go_wp2
    go_ret
    exact ⟨_, rfl, .inr ⟨k, hkx, rfl, by rw [Hf.out, He.out]⟩, belN hbel hb2⟩
  ·have Hf := Lib.hid (show ds.find? p = none by have := hnone.out; rwa [List.take_of_length_le (by have := HL.out; omega)] at this)
   go_wp2
   go_ret
   exact ⟨_, rfl, .inl ⟨rfl, Hf.out⟩, hbel⟩

set_option maxRecDepth 100000 in
set_option maxHeartbeats 2000000 in
theorem containsFunc_add (p : EntD → Bool) (cap : Value) (A : Option Addr) (n c : Nat) (ds : List EntD) (hn : n ≤ 9223372036854775807) (w : World) (hr : Reads w w.heap.size 4 A n (ES ds))
  (hcl : ∀ W, Below w.heap.size w W → ∀ e ∈ ds, Calls Tryz.prog 106 #[.agg #[.int .i64 e.h, .int .i64 e.i, .string e.s, .int .i64 e.d], cap] W fun r w' => r = .returned (.bool (p e)) ∧ Below W.heap.size W w') :
  Calls Tryz.prog 105 #[.slice A n c, .func (.func 106) #[] #[cap]] w fun e w' => e = .returned (.bool (ds.any p)) ∧ Below w.heap.size w w' := by
 have H := Lib.hid (indexFunc_add p cap A n c ds hn w hr hcl)
 clear hr hcl
 go_enter Tryz.func105, Tryz.ntmps105
 go_wp2_with fail
 refine H.out.mono ?_
 rintro e w1 ⟨r, rfl, hi, hb1⟩
 have Hi := Lib.hid (idx_any hi)
 clear hi
 go_wp2
 go_ret
 exact ⟨ret_bool (by first | exact Hi.out | simpa using Hi.out), hb1⟩

set_option maxRecDepth 100000 in
set_option maxHeartbeats 4000000 in
theorem add_impl (A : Option Addr) (n c : Nat) (ds : List EntD) (hz : ∀ e ∈ ds, e.s.size ≤ 2000000) (hn : n ≤ 9223372036854775807) (s : ByteArray) (hs : s.size ≤ 2000000) (i : Int) (w : World) (hT : Tab w) (hr : Reads w w.heap.size 4 A n (ES ds)) :
  Calls Tryz.prog 74 #[.slice A n c, .string s, .int .i64 i] w fun e w' => ChgPost w (addP ds s i) e w' ∧ Below w.heap.size w w' := by
 have hl : ds.length = n := by have := hr.1; rw [ES_length] at this; omega
 have Hr := Lib.hid hr
 have HL := Lib.hid hl
 have HT := Lib.hid hT
 clear hT hr hl
 rcases hok : dirOkB ds with _ | _
 ·have Hf := Lib.hid (addP_bad (s := s) (id := i) hok)
  have Hok := Lib.hid hok
  clear hok
  go_enter Tryz.func74, Tryz.ntmps74
  go_wp2_with fail
  refine (dirOk_impl A n c ds hz _ HT.out hn Hr.out).mono ?_
  rintro e w1 ⟨rfl, hb1⟩
  rw [Hok.out]
  go_wp2
  refine bodyPost_ret (v := .tuple #[.slice none 0 0, .bool false]) (by simp [results, Tryz.results74, go_sem]) rfl ⟨chg_bad Hf.out rfl, hb1⟩
 ·have h12 : n ≤ 12 := by have := dir12 hok; have := HL.out; omega
  have Hok := Lib.hid hok
  clear hok
  rcases hnm : nameOkB s with _ | _
  ·have Hf := Lib.hid (addP_no (s := s) (id := i) Hok.out (fun h => by rw [hnm] at h; exact absurd h.1 (by simp)))
   have Hnm := Lib.hid hnm
   clear hnm
   go_enter Tryz.func74, Tryz.ntmps74
   go_wp2_with fail
   refine (dirOk_impl A n c ds hz _ HT.out hn Hr.out).mono ?_
   rintro e w1 ⟨rfl, hb1⟩
   rw [Hok.out]
   go_wp2_with fail
   refine (copyEnts_impl A n c ds (by omega) _ ((Hr.out.below hb1).more hb1.size)).mono ?_
   rintro e w2 ⟨v, rfl, own2, hb2⟩
   have Own2 := Lib.hid own2
   have B2 := belN hb1 hb2
   clear own2
   go_wp2_with fail
   refine (nameOk_impl s hs _ (HT.out.bl B2)).mono ?_
   rintro e w3 ⟨rfl, hb3⟩
   rw [Hnm.out]
   have Own3 := Lib.hid (own_below Own2.out hb3 (Nat.le_refl _))
   have B3 := belN B2 hb3
   clear Own2
   go_wp2
   refine bodyPost_ret (v := .tuple #[v, .bool false]) (by simp [results, Tryz.results74, go_sem]) rfl ⟨chg_end Hf.out rfl HL.out (own_more Own3.out hb1.size), B3⟩
  ·have Hnm := Lib.hid hnm
   clear hnm
   go_enter Tryz.func74, Tryz.ntmps74
   go_wp2_with fail
   refine (dirOk_impl A n c ds hz _ HT.out hn Hr.out).mono ?_
   rintro e w1 ⟨rfl, hb1⟩
   rw [Hok.out]
   go_wp2_with fail
   refine (copyEnts_impl A n c ds (by omega) _ ((Hr.out.below hb1).more hb1.size)).mono ?_
   rintro e w2 ⟨v, rfl, own2, hb2⟩
   have Own2 := Lib.hid own2
   have B2 := belN hb1 hb2
   clear own2
   go_wp2_with fail
   refine (nameOk_impl s hs _ (HT.out.bl B2)).mono ?_
   rintro e w3 ⟨rfl, hb3⟩
   rw [Hnm.out]
   have Own3 := Lib.hid (own_below Own2.out hb3 (Nat.le_refl _))
   have B3 := belN B2 hb3
   clear Own2
   go_wp2_with fail
   refine (entAt_impl A n c ds hz hn s hs _ (HT.out.bl B3) ((Hr.out.below B3).more B3.size)).mono ?_
   rintro e w4 ⟨r, rfl, ha, hb4⟩
   have Own4 := Lib.hid (own_below Own3.out hb4 (Nat.le_refl _))
   have B4 := belN B3 hb4
   have hix := at_idx Hok.out ha
   clear ha Own3
   rcases hix with ⟨rfl, hf⟩ | ⟨k, hk, rfl, hf⟩
   ·have Hfn := Lib.hid hf
    clear hf
    rcases hid : inI i 1 100000 with _ | _
    ·have Hf := Lib.hid (addP_no (s := s) (id := i) Hok.out (fun h => by rw [hid] at h; exact absurd h.2.2.1 (by simp)))
     have Hid' := Lib.hid hid
     clear hid
     go_wp2_with fail
     refine (isId_q i _).mono ?_
     rintro e w5 ⟨rfl, rfl⟩
     rw [Hid'.out]
     go_wp2
     refine bodyPost_ret (v := .tuple #[v, .bool false]) (by simp [results, Tryz.results74, go_sem]) rfl ⟨chg_end Hf.out rfl HL.out (own_more Own4.out hb1.size), B4⟩
    ·have Hid' := Lib.hid hid
     clear hid
     by_cases hn12 : n = 12
     ·have Hf := Lib.hid (addP_no (s := s) (id := i) Hok.out (fun h => h.2.2.2 (by rw [HL.out]; exact hn12)))
      subst hn12
      go_wp2_with fail
      refine (isId_q i _).mono ?_
      rintro e w5 ⟨rfl, rfl⟩
      rw [Hid'.out]
      go_wp2
      refine bodyPost_ret (v := .tuple #[v, .bool false]) (by simp [results, Tryz.results74, go_sem]) rfl ⟨chg_end Hf.out rfl HL.out (own_more Own4.out hb1.size), B4⟩
     ·have Hf := Lib.hid (addP_yes (s := s) (id := i) Hok.out ⟨Hnm.out, Hfn.out, Hid'.out, by rw [HL.out]; exact hn12⟩)
      have t12 : ((n : Int) == 12) = false := by simpa using (show ¬ ((n : Int) = 12) by omega)
      have t12' : ¬ ((n : Int) = 12) := by omega
      go_wp2_with fail
      refine (isId_q i _).mono ?_
      rintro e w5 ⟨rfl, rfl⟩
      rw [Hid'.out]
      go_wp2_with fail
      refine (hashOf_impl s hs _ (HT.out.bl B4)).mono ?_
      rintro e w5 ⟨rfl, hb5⟩
      have Own5 := Lib.hid (own_below Own4.out hb5 (Nat.le_refl _))
      have B5 := belN B4 hb5
      have hK := ixL_bd Hok.out (hashI s)
      have hKa := fun k h0 h1 => ixL_any Hok.out (hashI s) k h0 h1
      have HE : Hid (newE ds s i = ⟨hashI s, ixL (hashI s) ds, s, i⟩) := rfl
      obtain ⟨h, hh⟩ : ∃ h, hashI s = h := ⟨_, rfl⟩
      obtain ⟨K, hKK⟩ : ∃ K, ixL h ds = K := ⟨_, rfl⟩
      rw [hh] at hK hKa HE ⊢
      rw [hKK] at hK hKa HE
      have HKa := Lib.hid hKa
      have hK12 : K ≤ 12 := by have := HL.out; omega
      obtain ⟨hK0, _⟩ := hK
      clear hKa hh hKK Own4
      obtain ⟨A', c', rfl, hcc, hcm, _⟩ := own_vals Own5.out
      unfold maxLen at hcm
      go_wp2_with fail
      obtain ⟨W6, hW6⟩ : ∃ W, w5.alloc (.cells #[.int .i64 h, .int .i64 0, .string s, .int .i64 i] 66) = W := ⟨_, rfl⟩
      have hO : Blk W6 w5.heap.size 66 #[.int .i64 h, .int .i64 0, .string s, .int .i64 i] := by rw [← hW6]; exact Blk.new' _ _ _ _ rfl
      have b6 : Below w5.heap.size w5 W6 := by rw [← hW6]; exact belA (bel0 w5) _
      rw [hW6]
      have HO := Lib.hid hO
      clear hW6 hO
      go_loopw [] (fun wr => ∃ k : Int, 0 ≤ k ∧ k ≤ K ∧ Hid (Blk wr w5.heap.size 66 #[.int .i64 h, .int .i64 k, .string s, .int .i64 i]) ∧ Below w5.heap.size w5 wr)
       (fun wr => (K - intOf ((wr.cell? ⟨w5.heap.size, 1, none⟩).getD (.int .i64 0))).toNat)
      case atStart => exact ⟨0, by omega, hK0, HO.out, b6⟩
      case round =>
       obtain ⟨k, hk0, hkK, hB, hbel⟩ := hrel
       have B7 := belN B5 hbel
       have hq := Lib.hid (HKa.out k hk0 hkK)
       have hBm := Lib.hid (hB.out.get (x := .int .i64 k) 1 rfl)
       go_wp2_with fail
       refine (containsFunc_add (isPl h k) (.pointer (some ⟨w5.heap.size, 0, none⟩)) A n c ds hn _ ((Hr.out.below B7).more B7.size) (fun W hW e _ => add_clo e w5.heap.size h k s i W (hB.out.below hW hB.out.lt))).mono ?_
       rintro e w8 ⟨rfl, hb8⟩
       have hB8 := hB.out.below hb8 hB.out.lt
       have b8 := belN hbel hb8
       rw [hq.out]
       by_cases hlt : k < K
       ·rw [decide_eq_true hlt]
        have c1 := hB8.get (x := .int .i64 k) 1 rfl
        have f1 := hB8.frozen 1
        have l8 := hB8.lt
        have hN := Lib.hid (hB8.put 1 (.int .i64 (k + 1)) #[.int .i64 h, .int .i64 (k + 1), .string s, .int .i64 i] rfl)
        clear hB8 hq
        go_wp2
        go_roundw
        case rel => exact ⟨k + 1, by omega, by omega, hN.out, belC b8 _ _ (Nat.le_refl _) _⟩
        case measure => rw [hN.out.get (x := .int .i64 (k + 1)) 1 rfl, hBm.out]; simp [intOf]; omega
       ·obtain rfl : K = k := by omega
        rw [decide_eq_false (by omega)]
        have Own8 := Lib.hid (own_below Own5.out b8 (Nat.le_refl _))
        have B8 := belN B5 b8
        have HB8 := Lib.hid hB8
        have hl58 : w5.heap.size < w8.heap.size := hB8.lt
        clear hB8 hq hBm
        go_wp2
        go_loopw [10] (fun a wr2 => ∃ j : Nat, j ≤ n ∧ a = .int .i64 j ∧ Hid (∀ x ∈ ds.take j, behB ⟨h, K, s, i⟩ x.h x.i = true) ∧ Below w8.heap.size w8 wr2)
         (fun a _ => n - (intOf a).toNat)
        case atStart => exact ⟨0, by omega, rfl, by simp [Hid], bel0 w8⟩
        case round =>
         obtain ⟨j, hj, rfl, hall, hbel9⟩ := hrel
         rename World => w9
         have hB9 := HB8.out.below hbel9 HB8.out.lt
         have c0 := hB9.get (x := .int .i64 h) 0 rfl
         have c1 := hB9.get (x := .int .i64 K) 1 rfl
         have c2 := hB9.get (x := .string s) 2 rfl
         have c3 := hB9.get (x := .int .i64 i) 3 rfl
         have l9 := hB9.lt
         have HB9 := Lib.hid hB9
         have Own9 := Lib.hid (own_below Own8.out hbel9 (Nat.le_refl _))
         have B9 := belN B8 hbel9
         clear hB9
         by_cases hlt : j < n
         ·obtain ⟨A9, c9, he9, _, _, hr9⟩ := own_vals Own9.out
          simp only [Value.slice.injEq] at he9
          obtain ⟨rfl, _, rfl⟩ := he9
          obtain ⟨hkx, b, o, rfl, hadb, z0, z1, _, _⟩ := reads_ent hr9 hlt
          have q0 : (0 : Int) ≤ ↑j := by omega
          have q1 : (↑j : Int) < ↑n := by omega
          have hts := Lib.hid (List.take_succ_eq_append_getElem hkx)
          clear hr9
          rcases hbh : behB ⟨h, K, s, i⟩ ds[j].h ds[j].i with _ | _
          ·skip
           go_wp2_with fail
           go_region_held3 (fun w' => w'.cell? ⟨w5.heap.size, 0, none⟩ = some (.int .i64 h) ∧ w'.cell? ⟨w5.heap.size, 1, none⟩ = some (.int .i64 K) ∧ w'.cell? ⟨w5.heap.size, 2, none⟩ = some (.string s) ∧ w'.cell? ⟨w5.heap.size, 3, none⟩ = some (.int .i64 i) ∧ w'.cell? ⟨b, o + j * 4, none⟩ = some (.int .i64 ds[j].h) ∧ w'.cell? ⟨b, o + j * 4 + 1, none⟩ = some (.int .i64 ds[j].i))
            (first | go_keep | (refine ⟨keep1 hb10 ?_, keep1 hb10 ?_, keep1 hb10 ?_, keep1 hb10 ?_, keep1 hb10 ?_, keep1 hb10 ?_⟩ <;> go_keep))
            (first
             | (go_at_call 97; refine (isBehind_any ⟨h, K, s, i⟩ _ _ _).mono ?_; rintro e w10 ⟨rfl, hb10⟩))
           have Own10 := Lib.hid (show (w10).ownsRow w1.heap.size 66 4 _ n (ES ds) from own_below (w := w9.drew) Own9.out hb10 (Nat.le_refl _))
           have hB10 : Blk (w10) w5.heap.size 66 #[.int .i64 h, .int .i64 K, .string s, .int .i64 i] := HB9.out.drew.below hb10 HB9.out.lt
           have B10 := Lib.hid (show Below w.heap.size w (w10) from by first | exact belN B9.drew hb10 | exact belN (below_drewN B9 _) hb10 | exact belN (below_drewN B9 _).drew hb10)
           have zs : w1.heap.size ≤ (w10).heap.size := by have := hb2.size; have := hb3.size; have := hb4.size; have := hb5.size; have := hbel9.size; have := hb10.size; have h9 : w9.heap.size ≤ w10.heap.size := this; omega
           have Hf' := Lib.hid (show addP ds s i = (ds.take j ++ (⟨h, K, s, i⟩ : EntD) :: ds.drop j, true) by rw [Hf.out, HE.out, insL_at (k := j) (by have := HL.out; omega) hall.out (fun _ => hbh)])
           clear c0 c1 c2 c3
           have c0 := hB10.get (x := .int .i64 h) 0 rfl
           have c1 := hB10.get (x := .int .i64 K) 1 rfl
           have c2 := hB10.get (x := .string s) 2 rfl
           have c3 := hB10.get (x := .int .i64 i) 3 rfl
           go_wp2_with fail
           refine (insE_any w1.heap.size n j _ ds ⟨h, K, s, i⟩ (w10).heap.size _ (by omega) (by omega) HL.out (Nat.le_trans zs (by simp)) (Own10.out.alloc _) (Blk.new' _ _ _ _ rfl) (fun e => by have := (Own10.out.lt _ e).2; omega)).mono ?_
           rintro e w12 ⟨v', rfl, own12, hb12⟩
           have Own12 := Lib.hid own12
           have B12 := (belA B10.out _).trans (hb12.mono hb1.size)
           clear own12
           go_wp2
           refine bodyPost_ret (v := .tuple #[v', .bool true]) (by simp [results, Tryz.results74, go_sem]) rfl ⟨chg_end Hf'.out rfl (by have := HL.out; simp; omega) (own_more Own12.out hb1.size), B12⟩
          ·skip
           go_wp2_with fail
           go_region_held3 (fun w' => w'.cell? ⟨w5.heap.size, 0, none⟩ = some (.int .i64 h) ∧ w'.cell? ⟨w5.heap.size, 1, none⟩ = some (.int .i64 K) ∧ w'.cell? ⟨w5.heap.size, 2, none⟩ = some (.string s) ∧ w'.cell? ⟨w5.heap.size, 3, none⟩ = some (.int .i64 i) ∧ w'.cell? ⟨b, o + j * 4, none⟩ = some (.int .i64 ds[j].h) ∧ w'.cell? ⟨b, o + j * 4 + 1, none⟩ = some (.int .i64 ds[j].i))
            (first | go_keep | (refine ⟨keep1 hb10 ?_, keep1 hb10 ?_, keep1 hb10 ?_, keep1 hb10 ?_, keep1 hb10 ?_, keep1 hb10 ?_⟩ <;> go_keep))
            (first
             | (go_at_call 97; refine (isBehind_any ⟨h, K, s, i⟩ _ _ _).mono ?_; rintro e w10 ⟨rfl, hb10⟩))
           go_wp2
           go_roundw
           case rel =>
            refine ⟨j + 1, by omega, by go_num, fun x hx => ?_, by first | exact belN hbel9.drew hb10 | exact belN (below_drewN hbel9 _) hb10 | exact belN (below_drewN hbel9 _).drew hb10⟩
            rw [hts.out] at hx
            rcases List.mem_append.1 hx with hx | hx
            ·exact hall.out x hx
            ·rw [List.mem_singleton] at hx; subst hx; exact hbh
           case measure => simp [intOf]; omega
         ·obtain rfl : n = j := by omega
          obtain ⟨A9, c9, he9, _, _, hr9⟩ := own_vals Own9.out
          clear he9 hr9
          go_wp2_with fail
          go_quiet (fail)
          have Own10 := Lib.hid (show (w9.drewN nq).ownsRow w1.heap.size 66 4 _ n (ES ds) from own_dN Own9.out nq)
          have hB10 : Blk (w9.drewN nq) w5.heap.size 66 #[.int .i64 h, .int .i64 K, .string s, .int .i64 i] := HB9.out.drewN nq
          have B10 := Lib.hid (show Below w.heap.size w (w9.drewN nq) from below_drewN B9 nq)
          have zs : w1.heap.size ≤ (w9.drewN nq).heap.size := by have := hb2.size; have := hb3.size; have := hb4.size; have := hb5.size; have := hbel9.size; show w1.heap.size ≤ w9.heap.size; omega
          have Hf' := Lib.hid (show addP ds s i = (ds.take n ++ (⟨h, K, s, i⟩ : EntD) :: ds.drop n, true) by rw [Hf.out, HE.out, insL_at (k := n) (by have := HL.out; omega) hall.out (fun hh => absurd hh (by have := HL.out; omega))])
          clear c0 c1 c2 c3
          have c0 := hB10.get (x := .int .i64 h) 0 rfl
          have c1 := hB10.get (x := .int .i64 K) 1 rfl
          have c2 := hB10.get (x := .string s) 2 rfl
          have c3 := hB10.get (x := .int .i64 i) 3 rfl
          go_wp2_with fail
          refine (insE_any w1.heap.size n n _ ds ⟨h, K, s, i⟩ (w9.drewN nq).heap.size _ (by omega) (by omega) HL.out (Nat.le_trans zs (by simp)) (Own10.out.alloc _) (Blk.new' _ _ _ _ rfl) (fun e => by have := (Own10.out.lt _ e).2; omega)).mono ?_
          rintro e w12 ⟨v', rfl, own12, hb12⟩
          have Own12 := Lib.hid own12
          have B12 := (belA B10.out _).trans (hb12.mono hb1.size)
          clear own12
          go_wp2
          refine bodyPost_ret (v := .tuple #[v', .bool true]) (by simp [results, Tryz.results74, go_sem]) rfl ⟨chg_end Hf'.out rfl (by have := HL.out; simp; omega) (own_more Own12.out hb1.size), B12⟩
   ·have Hf := Lib.hid (addP_no (s := s) (id := i) Hok.out (fun h => absurd (hf.symm.trans h.2.1) (by simp)))
    have q0 : ¬ ((k : Int) < 0) := by omega
    have q1 : (0 : Int) ≤ (k : Int) := by omega
    clear hf
    go_wp2
    refine bodyPost_ret (v := .tuple #[v, .bool false]) (by simp [results, Tryz.results74, go_sem]) rfl ⟨chg_end Hf.out rfl HL.out (own_more Own4.out hb1.size), B4⟩

theorem sz_al2 (w : World) (o : Obj) : (w.alloc o).heap.size = w.heap.size + 1 := by simp

set_option maxRecDepth 100000 in
set_option maxHeartbeats 8000000 in
theorem l5Add_any (base n : Nat) (v : Value) (ds : List EntD) (hok : dirOkB ds = true) (hz : ∀ e ∈ ds, e.s.size ≤ 2000000) (s : ByteArray) (hs : s.size ≤ 2000000) (i : Int) (w : World) (hbase : base ≤ w.heap.size) (hown : w.ownsRow base 66 4 v n (ES ds)) :
  Calls Tryz.prog 79 #[v, .string s, .int .i64 i] w fun e w' => ChgAt base (addP ds s i) e w' ∧ Below w.heap.size w w' := by
 have hl : ds.length = n := by have := hown.1; rw [ES_length] at this; omega
 have h12 : n ≤ 12 := by have := dir12 hok; omega
 obtain ⟨A, c, rfl, hc1, hc2, hr⟩ := own_vals hown
 unfold maxLen at hc2
 have Hr := Lib.hid hr
 have HL := Lib.hid hl
 have Hok := Lib.hid hok
 have Own := Lib.hid hown
 clear hr hl hok hown
 rcases hnm : nameOkB s with _ | _
 ·have Hf := Lib.hid (addP_no (s := s) (id := i) Hok.out (fun h => by rw [hnm] at h; exact absurd h.1 (by simp)))
  have Hnm := Lib.hid hnm
  clear hnm
  go_enter Tryz.func79, Tryz.ntmps79
  go_wp2_with fail
  refine (nameOk_spec s hs _).mono ?_
  rintro e w3 ⟨rfl, hb3⟩
  rw [Hnm.out]
  go_wp2
  refine bodyPost_ret (v := .tuple #[.slice A n c, .bool false]) (by simp [results, Tryz.results79, go_sem]) rfl ⟨chgAt_end Hf.out rfl HL.out (own_below Own.out hb3 (Nat.le_refl _)), hb3⟩
 ·have Hnm := Lib.hid hnm
  clear hnm
  go_enter Tryz.func79, Tryz.ntmps79
  go_wp2_with fail
  refine (nameOk_spec s hs _).mono ?_
  rintro e w3 ⟨rfl, hb3⟩
  rw [Hnm.out]
  go_wp2_with fail
  refine (l5At_any A n c ds hz (by omega) s hs _ ((Hr.out.below hb3).more hb3.size)).mono ?_
  rintro e w4 ⟨r, rfl, hix, hb4⟩
  have B4 := belN hb3 hb4
  have Own4 := Lib.hid (own_below Own.out B4 (Nat.le_refl _))
  clear Own
  rcases hix with ⟨rfl, hf⟩ | ⟨k, hk, rfl, hf⟩
  ·have Hfn := Lib.hid hf
   clear hf
   rcases hid : inI i 1 100000 with _ | _
   ·have Hf := Lib.hid (addP_no (s := s) (id := i) Hok.out (fun h => by rw [hid] at h; exact absurd h.2.2.1 (by simp)))
    have Hid' := Lib.hid hid
    clear hid
    go_wp2_with fail
    refine (l1In_any i 1 100000 _).mono ?_
    rintro e w5 ⟨rfl, hw⟩
    subst hw
    rw [Hid'.out]
    go_wp2
    refine bodyPost_ret (v := .tuple #[.slice A n c, .bool false]) (by simp [results, Tryz.results79, go_sem]) rfl ⟨chgAt_end Hf.out rfl HL.out Own4.out, B4⟩
   ·have Hid' := Lib.hid hid
    clear hid
    by_cases hn12 : n = 12
    ·have Hf := Lib.hid (addP_no (s := s) (id := i) Hok.out (fun h => h.2.2.2 (by rw [HL.out]; exact hn12)))
     subst hn12
     go_wp2_with fail
     refine (l1In_any i 1 100000 _).mono ?_
     rintro e w5 ⟨rfl, hw⟩
     subst hw
     rw [Hid'.out]
     go_wp2
     refine bodyPost_ret (v := .tuple #[.slice A 12 c, .bool false]) (by simp [results, Tryz.results79, go_sem]) rfl ⟨chgAt_end Hf.out rfl HL.out Own4.out, B4⟩
    ·have Hf := Lib.hid (addP_yes (s := s) (id := i) Hok.out ⟨Hnm.out, Hfn.out, Hid'.out, by rw [HL.out]; exact hn12⟩)
     have t12 : ¬ ((12 : Int) ≤ (n : Int)) := by omega
     go_wp2_with fail
     refine (l1In_any i 1 100000 _).mono ?_
     rintro e w5 ⟨rfl, hw⟩
     subst hw
     rw [Hid'.out]
     go_wp2_with fail
     refine (hashOf_spec s hs _).mono ?_
     rintro e w5 ⟨rfl, hb5⟩
     have Own5 := Lib.hid (own_below Own4.out hb5 (Nat.le_refl _))
     have B5 := belN B4 hb5
     have HE : Hid (newE ds s i = ⟨hashI s, ixL (hashI s) ds, s, i⟩) := rfl
     obtain ⟨h, hh⟩ : ∃ h, hashI s = h := ⟨_, rfl⟩
     rw [hh] at HE ⊢
     clear hh Own4
     go_wp2
     go_loopw [9, 10] (fun kk ii wr => ∃ (j : Nat) (q : Int), j ≤ n ∧ ii = .int .i64 j ∧ kk = .int .i64 q ∧ Hid (q = ixL h (ds.take j)) ∧ Below w5.heap.size w5 wr)
      (fun _ ii _ => n - (intOf ii).toNat)
     case atStart => exact ⟨0, 0, by omega, rfl, rfl, by simp [Hid, ixL_nil], bel0 w5⟩
     case round =>
      obtain ⟨j, q, hj, rfl, rfl, hq, hbel⟩ := hrel
      have hqb := ixL_le h ds j (by have := HL.out; omega)
      rw [← hq.out] at hqb
      have B6 := belN B5 hbel
      by_cases hlt : j < n
      ·obtain ⟨hkx, b, o, rfl, hadb, z0, z1, _, _⟩ := reads_ent (Hr.out.below B6) hlt
       have q0 : (0 : Int) ≤ ↑j := by omega
       have q1 : (↑j : Int) < ↑n := by omega
       have hts := Lib.hid (List.take_succ_eq_append_getElem hkx)
       by_cases h1 : ds[j].h = h
       ·by_cases h2 : ds[j].i = q
        ·have hn' := Lib.hid (show ixL h (ds.take (j + 1)) = q + 1 by rw [hts.out, ixL_snoc, ← hq.out, if_pos ⟨h1, h2⟩])
         rw [h1] at z0
         rw [h2] at z1
         go_wp2
         go_roundw
         case rel => exact ⟨j + 1, q + 1, by omega, by go_num, by go_num, hn'.out.symm, hbel⟩
         case measure => simp [intOf]; omega
        ·have hn' := Lib.hid (show ixL h (ds.take (j + 1)) = q by rw [hts.out, ixL_snoc, ← hq.out, if_neg (fun hc => h2 hc.2)])
         rw [h1] at z0
         have t2 : (ds[j].i == q) = false := by simpa using h2
         go_wp2
         go_roundw
         case rel => exact ⟨j + 1, q, by omega, by go_num, by go_num, hn'.out.symm, hbel⟩
         case measure => simp [intOf]; omega
       ·have hn' := Lib.hid (show ixL h (ds.take (j + 1)) = q by rw [hts.out, ixL_snoc, ← hq.out, if_neg (fun hc => h1 hc.1)])
        have t1 : (ds[j].h == h) = false := by simpa using h1
        go_wp2
        go_roundw
        case rel => exact ⟨j + 1, q, by omega, by go_num, by go_num, hn'.out.symm, hbel⟩
        case measure => simp [intOf]; omega
      ·obtain rfl : n = j := by omega
       have HK := Lib.hid (show ixL h ds = q by rw [hq.out, List.take_of_length_le (by have := HL.out; omega)])
       clear hq
       rename World => w6
       have hE2 := Lib.hid (show newE ds s i = ⟨h, q, s, i⟩ by rw [HE.out, HK.out])
       clear HE
       go_wp2
       obtain ⟨W7, hW7⟩ : ∃ W, w6.alloc (.cells #[] 66) = W := ⟨_, rfl⟩
       have o7 : W7.ownsRow w6.heap.size 66 4 (.slice (some ⟨w6.heap.size, 0, none⟩) 0 0) 0 (ES []) := by rw [← hW7]; exact World.ownsRow_lit (e := 66) (size := 4) w6 #[] 0 (Nat.le_refl _) (by unfold maxLen; omega) rfl
       have b7 : Below w6.heap.size w6 W7 := by rw [← hW7]; exact belA (bel0 w6) _
       rw [hW7]
       have O7 := Lib.hid o7
       clear o7 hW7
       go_loopw [11, 12, 13] (fun out put ii wr => ∃ (j : Nat) (o : List EntD) (bb : Bool) (u : Value) (m : Nat), j ≤ n ∧ ii = .int .i64 j ∧ put = .bool bb ∧ out = u ∧ Hid (stL ⟨h, q, s, i⟩ (ds.take j) = (o, bb)) ∧ Hid (o.length = m) ∧ Hid (wr.ownsRow w6.heap.size 66 4 u m (ES o)) ∧ Below w6.heap.size w6 wr)
        (fun _ _ ii _ => n - (intOf ii).toNat)
       case atStart => exact ⟨0, [], false, _, 0, by omega, rfl, rfl, rfl, by simp [Hid, stL_nil], rfl, O7.out, b7⟩
       case round =>
        obtain ⟨j, o, bb, u, m, hj, rfl, rfl, rfl, hst, hlen, hown, hbel7⟩ := hrel
        have hm13 : m ≤ 13 := by have h1 := (stL_len hst.out).1; have h2 := hlen.out; rw [List.length_take] at h1; omega
        have B8 := belN B6 hbel7
        have hs8 := hbel7.size
        have hs6 := B6.size
        by_cases hlt : j < n
        ·obtain ⟨hkx, b, oo, rfl, hadb, z0, z1, z2, z3⟩ := reads_ent (Hr.out.below B8) hlt
         have q0 : (0 : Int) ≤ ↑j := by omega
         have q1 : (↑j : Int) < ↑n := by omega
         have hts := Lib.hid (List.take_succ_eq_append_getElem hkx)
         obtain ⟨e, he⟩ : ∃ e, ds[j] = e := ⟨_, rfl⟩
         rw [he] at z0 z1 z2 z3 hts
         clear he
         rcases bb with _ | _
         ·have hbl := beh_less2 (e := (⟨h, q, s, i⟩ : EntD)) (x := e)
          rcases hls : lessB e h q with _ | _
          ·have Hs := Lib.hid (stL_put (x := e) hst.out (by rw [hbl]; exact hls))
           clear hbl
           go_wp2_with fail
           refine (l5Less_any e h q _).mono ?_
           rintro r w8 ⟨rfl, hb8⟩
           rw [hls]
           have hown8 := own_below hown.out hb8 (Nat.le_refl _)
           have y0 := keep1 hb8 z0 (Nat.le_refl _)
           have y1 := keep1 hb8 z1 (Nat.le_refl _)
           have y2 := keep1 hb8 z2 (Nat.le_refl _)
           have y3 := keep1 hb8 z3 (Nat.le_refl _)
           clear z0 z1 z2 z3
           have z8 := hb8.size
           go_wp2_with (first
            | (at_builtin; refine wpList_app _ rfl _ _ _ rfl Tryz.el_ent (hown8.alloc _) rfl (reads_new (_) #[.int .i64 h, .int .i64 q, .string s, .int .i64 i] 66 4 1 rfl) rfl (by simp [Value.oneCell']) (by unfold maxLen; omega) (by omega) (by simp; omega) ?_; intro v9 w9 ow9 _ _ bw9; have Ow9 := Lib.hid ow9; have Cw9 := Lib.hid bw9; have x0 := (bw9.cell (p := ⟨b, oo + j * 4, none⟩) (show b < _ by omega)).trans ((World.cell?_alloc_past _ _ _ (by omega)).trans y0); have x1 := (bw9.cell (p := ⟨b, oo + j * 4 + 1, none⟩) (show b < _ by omega)).trans ((World.cell?_alloc_past _ _ _ (by omega)).trans y1); have x2 := (bw9.cell (p := ⟨b, oo + j * 4 + 2, none⟩) (show b < _ by omega)).trans ((World.cell?_alloc_past _ _ _ (by omega)).trans y2); have x3 := (bw9.cell (p := ⟨b, oo + j * 4 + 3, none⟩) (show b < _ by omega)).trans ((World.cell?_alloc_past _ _ _ (by omega)).trans y3); clear y0 y1 y2 y3; have z9 := bw9.size; rw [sz_al2] at z9; clear ow9 bw9)
            | (at_builtin; refine wpList_app _ rfl _ _ _ rfl Tryz.el_ent (Ow9.out.alloc _) rfl (reads_new (_) #[.int .i64 e.h, .int .i64 e.i, .string e.s, .int .i64 e.d] 66 4 1 rfl) rfl (by simp [Value.oneCell']) (by unfold maxLen; omega) (by omega) (by simp; omega) ?_; intro v10 w10 ow10 _ _ bw10; have Ow10 := Lib.hid ow10; have Cw10 := Lib.hid bw10; clear ow10 bw10))
           go_roundw
           case rel =>
            have h9 := Ow10.out
            refine ⟨j + 1, o ++ [⟨h, q, s, i⟩] ++ [e], true, v10, m + 1 + 1, by omega, by go_num, rfl, rfl, ?_, ?_, ?_, ?_⟩
            ·show _ = _; rw [hts.out]; exact Hs.out
            ·show _ = _; rw [List.length_append, List.length_append, hlen.out]; rfl
            ·show World.ownsRow _ _ _ _ _ _ _; rw [ES_append, ES_append]; exact h9
            ·exact (((belN hbel7 hb8).alloc (by omega) _).trans Cw9.out).alloc (by omega) _ |>.trans Cw10.out
           case measure => simp [intOf]; omega
          ·have Hs := Lib.hid (stL_hold (x := e) hst.out (by rw [hbl]; exact hls))
           clear hbl
           go_wp2_with fail
           refine (l5Less_any e h q _).mono ?_
           rintro r w8 ⟨rfl, hb8⟩
           rw [hls]
           have hown8 := own_below hown.out hb8 (Nat.le_refl _)
           have y0 := keep1 hb8 z0 (Nat.le_refl _)
           have y1 := keep1 hb8 z1 (Nat.le_refl _)
           have y2 := keep1 hb8 z2 (Nat.le_refl _)
           have y3 := keep1 hb8 z3 (Nat.le_refl _)
           have z8 := hb8.size
           clear z0 z1 z2 z3
           go_wp2_with (at_builtin; refine wpList_app _ rfl _ _ _ rfl Tryz.el_ent (hown8.alloc _) rfl (reads_new (_) #[.int .i64 e.h, .int .i64 e.i, .string e.s, .int .i64 e.d] 66 4 1 rfl) rfl (by simp [Value.oneCell']) (by unfold maxLen; omega) (by omega) (by simp; omega) ?_; intro v9 w9 ow9 _ _ bw9; have Ow9 := Lib.hid ow9; have Cw9 := Lib.hid bw9; clear ow9 bw9)
           go_roundw
           case rel =>
            have h9 := Ow9.out
            refine ⟨j + 1, o ++ [e], false, v9, m + 1, by omega, by go_num, rfl, rfl, ?_, ?_, ?_, ?_⟩
            ·show _ = _; rw [hts.out]; exact Hs.out
            ·show _ = _; rw [List.length_append, hlen.out]; rfl
            ·show World.ownsRow _ _ _ _ _ _ _; rw [ES_append]; exact h9
            ·exact ((belN hbel7 hb8).alloc (by omega) _).trans Cw9.out
           case measure => simp [intOf]; omega
         ·have Hs := Lib.hid (stL_on (x := e) hst.out)
          go_wp2_with (at_builtin; refine wpList_app _ rfl _ _ _ rfl Tryz.el_ent (hown.out.alloc _) rfl (reads_new (_) #[.int .i64 e.h, .int .i64 e.i, .string e.s, .int .i64 e.d] 66 4 1 rfl) rfl (by simp [Value.oneCell']) (by unfold maxLen; omega) (by omega) (by simp; omega) ?_; intro v9 w9 ow9 _ _ bw9; have Ow9 := Lib.hid ow9; have Cw9 := Lib.hid bw9; clear ow9 bw9)
          go_roundw
          case rel =>
           have h9 := Ow9.out
           refine ⟨j + 1, o ++ [e], true, v9, m + 1, by omega, by go_num, rfl, rfl, ?_, ?_, ?_, ?_⟩
           ·show _ = _; rw [hts.out]; exact Hs.out
           ·show _ = _; rw [List.length_append, hlen.out]; rfl
           ·show World.ownsRow _ _ _ _ _ _ _; rw [ES_append]; exact h9
           ·exact (belA hbel7 _).trans Cw9.out
          case measure => simp [intOf]; omega
        ·obtain rfl : n = j := by omega
         rw [List.take_of_length_le (by have := HL.out; omega)] at hst
         rcases bb with _ | _
         ·have Hs := Lib.hid (show addP ds s i = (o ++ [⟨h, q, s, i⟩], true) by rw [Hf.out, hE2.out, stL_end1 hst.out])
          go_wp2_with (at_builtin; refine wpList_app _ rfl _ _ _ rfl Tryz.el_ent (hown.out.alloc _) rfl (reads_new (_) #[.int .i64 h, .int .i64 q, .string s, .int .i64 i] 66 4 1 rfl) rfl (by simp [Value.oneCell']) (by unfold maxLen; omega) (by omega) (by simp; omega) ?_; intro v9 w9 ow9 _ _ bw9; have Ow9 := Lib.hid ow9; have Cw9 := Lib.hid bw9; clear ow9 bw9)
          refine bodyPost_ret (v := .tuple #[v9, .bool true]) (by simp [results, Tryz.results79, go_sem]) rfl ⟨chgAt_end (n := m + 1) Hs.out rfl (by rw [List.length_append, hlen.out]; rfl) ?_, ?_⟩
          ·have h9 := Ow9.out
           rw [ES_append]
           exact own_more h9 (Nat.le_trans hbase B6.size)
          ·exact B6.trans (((hbel7.alloc (by omega) _).trans Cw9.out).mono B6.size)
         ·have Hs := Lib.hid (show addP ds s i = (o, true) by rw [Hf.out, hE2.out, stL_end2 hst.out])
          go_wp2
          refine bodyPost_ret (v := .tuple #[u11, .bool true]) (by simp [results, Tryz.results79, go_sem]) rfl ⟨chgAt_end Hs.out rfl hlen.out (own_more hown.out (Nat.le_trans hbase B6.size)), B8⟩
  ·have Hf := Lib.hid (addP_no (s := s) (id := i) Hok.out (fun h => absurd (hf.symm.trans h.2.1) (by simp)))
   have q0 : ¬ ((k : Int) < 0) := by omega
   have q1 : (0 : Int) ≤ (k : Int) := by omega
   clear hf
   go_wp2
   refine bodyPost_ret (v := .tuple #[.slice A n c, .bool false]) (by simp [results, Tryz.results79, go_sem]) rfl ⟨chgAt_end Hf.out rfl HL.out Own4.out, B4⟩

set_option maxRecDepth 100000 in
set_option maxHeartbeats 4000000 in
theorem add_spec (A : Option Addr) (n c : Nat) (ds : List EntD) (hz : ∀ e ∈ ds, e.s.size ≤ 2000000) (hn : n ≤ 9223372036854775807) (s : ByteArray) (hs : s.size ≤ 2000000) (i : Int) (w : World) (hr : Reads w w.heap.size 4 A n (ES ds)) :
  Calls Tryz.prog 38 #[.slice A n c, .string s, .int .i64 i] w fun e w' => ChgPost w (addP ds s i) e w' ∧ Below w.heap.size w w' := by
 have hl : ds.length = n := by have := hr.1; rw [ES_length] at this; omega
 have Hr := Lib.hid hr
 have HL := Lib.hid hl
 clear hr hl
 rcases hok : dirOkB ds with _ | _
 ·have Hf := Lib.hid (addP_bad (s := s) (id := i) hok)
  have Hok := Lib.hid hok
  clear hok
  go_enter Tryz.func38, Tryz.ntmps38
  go_wp2_with fail
  refine (dirOk_spec A n c ds hz _ hn Hr.out).mono ?_
  rintro e w1 ⟨rfl, hb1⟩
  rw [Hok.out]
  go_wp2
  refine bodyPost_ret (v := .tuple #[.slice (some ⟨w1.heap.size, 0, none⟩) 0 0, .bool false]) (by simp [results, Tryz.results38, go_sem]) rfl ⟨lit_end Hf.out rfl hb1.size (heap_alloc_new w1 _), belA hb1 _⟩
 ·have h12 : n ≤ 12 := by have := dir12 hok; have := HL.out; omega
  have Hok := Lib.hid hok
  clear hok
  go_enter Tryz.func38, Tryz.ntmps38
  go_wp2_with fail
  refine (dirOk_spec A n c ds hz _ hn Hr.out).mono ?_
  rintro e w1 ⟨rfl, hb1⟩
  rw [Hok.out]
  go_wp2_with fail
  refine (l5Copy_any A n c ds (by omega) _ ((Hr.out.below hb1).more hb1.size)).mono ?_
  rintro e w2 ⟨v, rfl, own2, hb2⟩
  have Own2 := Lib.hid own2
  have B2 := belN hb1 hb2
  clear own2
  go_wp2_with fail
  refine (l5Add_any w1.heap.size n v ds Hok.out hz s hs i _ hb2.size Own2.out).mono ?_
  rintro e w3 ⟨⟨L, b, u, m, hL, hm, rfl, own3⟩, hb3⟩
  have HP := Lib.hid hL
  have Own3 := Lib.hid own3
  have Hm := Lib.hid hm
  clear hL own3 hm
  go_wp2
  refine bodyPost_ret (v := .tuple #[u, .bool b]) (by simp [results, Tryz.results38, go_sem]) rfl ⟨chg_end HP.out rfl Hm.out (own_more Own3.out hb1.size), belN B2 hb3⟩

end Go.Proofs.YtghgafbfpejinaaGreatDoor
