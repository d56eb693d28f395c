/- Add: the program's and the reference's. -/
import Derived.Test.YtjjniapamdleoaaGreatDoorRCChg
namespace Go.Proofs.YtjjniapamdleoaaGreatDoor
open Go Go.RowKit
set_option maxHeartbeats 8000000
set_option maxRecDepth 100000

theorem indexFunc_add (p : EntD -> Bool) (cap : Value) (A : Option Addr) (n c : Nat) (ds : List EntD) (hn : n <= 9223372036854775807) (w : World) (hr : Reads w w.heap.size 4 A n (ES ds))
  (hcl : ∀ W, Below w.heap.size w W -> ∀ e ∈ ds, Calls Tryz.prog 245 #[.agg #[.int .i64 e.h, .int .i64 e.i, .string e.s, .int .i64 e.d], cap] W fun r w' => r = .returned (.bool (p e)) /\ Below W.heap.size W w') :
  Calls Tryz.prog 144 #[.slice A n c, .func (.func 245) #[] #[cap]] w fun e w' => ∃ r : Int, e = .returned (.int .i64 r) /\ IdxE ds p r /\ Below w.heap.size w w' := by
 have hl : ds.length = n := by have := hr.1; rw [ES_length] at this; omega
 have Hr := Lib.hid hr
 have HL := Lib.hid hl
 have Hcl := Lib.hid hcl
 clear hr hl hcl
 go_enter Tryz.func144, Tryz.ntmps144
 go_wp2
 go_loopw [8] (fun i wr => ∃ (k : Nat), k <= n /\ i = .int .i64 k /\ Hid ((ds.take k).find? p = none) /\ Below w.heap.size w wr)
  (fun i _ => n - (intOf i).toNat)
 case atStart => exact ⟨0, by omega, rfl, by simp [Hid], bel0 w⟩
 case round =>
  obtain ⟨k, hk, rfl, hnone, hbel⟩ := hrel
  by_cases hlt : k < n
  ·obtain ⟨hkx, b, o, rfl, hadb, z0, z1, z2, z3⟩ := reads_ent (Hr.out.below hbel) hlt
   have q0 : (0 : Int) <= ↑k := by omega
   have q1 : (↑k : Int) < ↑n := by omega
   have hts := Lib.hid (List.take_succ_eq_append_getElem hkx)
   have hdr := Lib.hid (show ds = ds.take k ++ ds[k] :: ds.drop (k + 1) by rw [<- List.drop_eq_getElem_cons hkx, List.take_append_drop])
   have hck := Lib.hid (Hcl.out wr hbel ds[k] (List.getElem_mem hkx))
   obtain ⟨e, he⟩ : ∃ e, ds[k] = e := ⟨_, rfl⟩
   have He := Lib.hid he
   rw [he] at z0 z1 z2 z3 hts hdr hck
   clear he
   rcases hp : p e with _ | _
   ·have Hm := Lib.hid (find_miss (p := p) hnone.out hp)
    have Hp := Lib.hid hp
    clear hp
    go_wp2_with fail
    refine hck.out.mono ?_
    rintro r w2 ⟨rfl, hb2⟩
    rw [Hp.out]
    go_wp2
    go_roundw
    case rel => exact ⟨k + 1, by omega, by go_num, by show _ = _; rw [hts.out]; exact Hm.out, belN hbel hb2⟩
    case measure => simp [intOf]; omega
   ·have Hf := Lib.hid (show ds.find? p = some e by rw [hdr.out]; exact find_hit (p := p) hnone.out hp)
    have Hp := Lib.hid hp
    clear hp
    go_wp2_with fail
    refine hck.out.mono ?_
    rintro r w2 ⟨rfl, hb2⟩
    rw [Hp.out]
    go_wp2
    go_ret
    exact ⟨_, rfl, .inr ⟨k, hkx, rfl, by rw [Hf.out, He.out]⟩, belN hbel hb2⟩
  ·have Hf := Lib.hid (show ds.find? p = none by have := hnone.out; rwa [List.take_of_length_le (by have := HL.out; omega)] at this)
   go_wp2
   go_ret
   exact ⟨_, rfl, .inl ⟨rfl, Hf.out⟩, hbel⟩

theorem sz_al2 (w : World) (o : Obj) : (w.alloc o).heap.size = w.heap.size + 1 := by simp

theorem l5Add_any (base n : Nat) (v : Value) (ds : List EntD) (hok : dirOkB ds = true) (hz : ∀ e ∈ ds, e.s.size <= 2000000) (s : ByteArray) (hs : s.size <= 2000000) (i : Int) (w : World) (hbase : base <= w.heap.size) (hown : w.ownsRow base 38 4 v n (ES ds)) :
  Calls Tryz.prog 180 #[v, .string s, .int .i64 i] w fun e w' => ChgAt base (addP ds s i) e w' /\ Below w.heap.size w w' := by
 have hl : ds.length = n := by have := hown.1; rw [ES_length] at this; omega
 have h12 : n <= 12 := by have := dir12 hok; omega
 obtain ⟨A, c, rfl, hc1, hc2, hr⟩ := own_vals hown
 unfold maxLen at hc2
 have Hr := Lib.hid hr
 have HL := Lib.hid hl
 have Hok := Lib.hid hok
 have Own := Lib.hid hown
 clear hr hl hok hown
 rcases hnm : nameOkB s with _ | _
 ·have Hf := Lib.hid (addP_no (s := s) (id := i) Hok.out (fun h => by rw [hnm] at h; exact absurd h.1 (by simp)))
  have Hnm := Lib.hid hnm
  clear hnm
  go_enter Tryz.func180, Tryz.ntmps180
  go_wp2_with fail
  refine (nameOk_spec s hs _).mono ?_
  rintro e w3 ⟨rfl, hb3⟩
  rw [Hnm.out]
  go_wp2
  refine bodyPost_ret (v := .tuple #[.slice A n c, .bool false]) (by simp [results, Tryz.results180, go_sem]) rfl ⟨chgAt_end Hf.out rfl HL.out (own_below Own.out hb3 (Nat.le_refl _)), hb3⟩
 ·have Hnm := Lib.hid hnm
  clear hnm
  go_enter Tryz.func180, Tryz.ntmps180
  go_wp2_with fail
  refine (nameOk_spec s hs _).mono ?_
  rintro e w3 ⟨rfl, hb3⟩
  rw [Hnm.out]
  go_wp2_with fail
  refine (l5At_any A n c ds hz (by omega) s hs _ ((Hr.out.below hb3).more hb3.size)).mono ?_
  rintro e w4 ⟨r, rfl, hix, hb4⟩
  have B4 := belN hb3 hb4
  have Own4 := Lib.hid (own_below Own.out B4 (Nat.le_refl _))
  clear Own
  rcases hix with ⟨rfl, hf⟩ | ⟨k, hk, rfl, hf⟩
  ·have Hfn := Lib.hid hf
   clear hf
   rcases hid : inI i 1 100000 with _ | _
   ·have Hf := Lib.hid (addP_no (s := s) (id := i) Hok.out (fun h => by rw [hid] at h; exact absurd h.2.2.1 (by simp)))
    have Hid' := Lib.hid hid
    clear hid
    go_wp2_with fail
    refine (l1In_any i 1 100000 _).mono ?_
    rintro e w5 ⟨rfl, hw⟩
    subst hw
    rw [Hid'.out]
    go_wp2
    refine bodyPost_ret (v := .tuple #[.slice A n c, .bool false]) (by simp [results, Tryz.results180, go_sem]) rfl ⟨chgAt_end Hf.out rfl HL.out Own4.out, B4⟩
   ·have Hid' := Lib.hid hid
    clear hid
    by_cases hn12 : n = 12
    ·have Hf := Lib.hid (addP_no (s := s) (id := i) Hok.out (fun h => h.2.2.2 (by rw [HL.out]; exact hn12)))
     subst hn12
     go_wp2_with fail
     refine (l1In_any i 1 100000 _).mono ?_
     rintro e w5 ⟨rfl, hw⟩
     subst hw
     rw [Hid'.out]
     go_wp2
     refine bodyPost_ret (v := .tuple #[.slice A 12 c, .bool false]) (by simp [results, Tryz.results180, go_sem]) rfl ⟨chgAt_end Hf.out rfl HL.out Own4.out, B4⟩
    ·have Hf := Lib.hid (addP_yes (s := s) (id := i) Hok.out ⟨Hnm.out, Hfn.out, Hid'.out, by rw [HL.out]; exact hn12⟩)
     have t12 : ¬ ((12 : Int) <= (n : Int)) := by omega
     go_wp2_with fail
     refine (l1In_any i 1 100000 _).mono ?_
     rintro e w5 ⟨rfl, hw⟩
     subst hw
     rw [Hid'.out]
     go_wp2_with fail
     refine (hashOf_spec s hs _).mono ?_
     rintro e w5 ⟨rfl, hb5⟩
     have Own5 := Lib.hid (own_below Own4.out hb5 (Nat.le_refl _))
     have B5 := belN B4 hb5
     have HE : Hid (newE ds s i = ⟨hashI s, ixL (hashI s) ds, s, i⟩) := rfl
     obtain ⟨h, hh⟩ : ∃ h, hashI s = h := ⟨_, rfl⟩
     rw [hh] at HE ⊢
     clear hh Own4
     go_wp2
     go_loopw [9, 10] (fun kk ii wr => ∃ (j : Nat) (q : Int), j <= n /\ ii = .int .i64 j /\ kk = .int .i64 q /\ Hid (q = ixL h (ds.take j)) /\ Below w5.heap.size w5 wr)
      (fun _ ii _ => n - (intOf ii).toNat)
     case atStart => exact ⟨0, 0, by omega, rfl, rfl, by simp [Hid, ixL_nil], bel0 w5⟩
     case round =>
      obtain ⟨j, q, hj, rfl, rfl, hq, hbel⟩ := hrel
      have hqb := ixL_le h ds j (by have := HL.out; omega)
      rw [<- hq.out] at hqb
      have B6 := belN B5 hbel
      by_cases hlt : j < n
      ·obtain ⟨hkx, b, o, rfl, hadb, z0, z1, _, _⟩ := reads_ent (Hr.out.below B6) hlt
       have q0 : (0 : Int) <= ↑j := by omega
       have q1 : (↑j : Int) < ↑n := by omega
       have hts := Lib.hid (List.take_succ_eq_append_getElem hkx)
       by_cases h1 : ds[j].h = h
       ·by_cases h2 : ds[j].i = q
        ·have hn' := Lib.hid (show ixL h (ds.take (j + 1)) = q + 1 by rw [hts.out, ixL_snoc, <- hq.out, if_pos ⟨h1, h2⟩])
         rw [h1] at z0
         rw [h2] at z1
         go_wp2
         go_roundw
         case rel => exact ⟨j + 1, q + 1, by omega, by go_num, by go_num, hn'.out.symm, hbel⟩
         case measure => simp [intOf]; omega
        ·have hn' := Lib.hid (show ixL h (ds.take (j + 1)) = q by rw [hts.out, ixL_snoc, <- hq.out, if_neg (fun hc => h2 hc.2)])
         rw [h1] at z0
         have t2 : (ds[j].i == q) = false := by simpa using h2
         go_wp2
         go_roundw
         case rel => exact ⟨j + 1, q, by omega, by go_num, by go_num, hn'.out.symm, hbel⟩
         case measure => simp [intOf]; omega
       ·have hn' := Lib.hid (show ixL h (ds.take (j + 1)) = q by rw [hts.out, ixL_snoc, <- hq.out, if_neg (fun hc => h1 hc.1)])
        have t1 : (ds[j].h == h) = false := by simpa using h1
        go_wp2
        go_roundw
        case rel => exact ⟨j + 1, q, by omega, by go_num, by go_num, hn'.out.symm, hbel⟩
        case measure => simp [intOf]; omega
      ·obtain rfl : n = j := by omega
       have HK := Lib.hid (show ixL h ds = q by rw [hq.out, List.take_of_length_le (by have := HL.out; omega)])
       clear hq
       rename World => w6
       have hE2 := Lib.hid (show newE ds s i = ⟨h, q, s, i⟩ by rw [HE.out, HK.out])
       clear HE
       go_wp2
       obtain ⟨W7, hW7⟩ : ∃ W, w6.alloc (.cells #[] 38) = W := ⟨_, rfl⟩
       have o7 : W7.ownsRow w6.heap.size 38 4 (.slice (some ⟨w6.heap.size, 0, none⟩) 0 0) 0 (ES []) := by rw [<- hW7]; exact World.ownsRow_lit (e := 38) (size := 4) w6 #[] 0 (Nat.le_refl _) (by unfold maxLen; omega) rfl
       have b7 : Below w6.heap.size w6 W7 := by rw [<- hW7]; exact belA (bel0 w6) _
       rw [hW7]
       have O7 := Lib.hid o7
       clear o7 hW7
       go_loopw [11, 12, 13] (fun out put ii wr => ∃ (j : Nat) (o : List EntD) (bb : Bool) (u : Value) (m : Nat), j <= n /\ ii = .int .i64 j /\ put = .bool bb /\ out = u /\ Hid (stL ⟨h, q, s, i⟩ (ds.take j) = (o, bb)) /\ Hid (o.length = m) /\ Hid (wr.ownsRow w6.heap.size 38 4 u m (ES o)) /\ Below w6.heap.size w6 wr)
        (fun _ _ ii _ => n - (intOf ii).toNat)
       case atStart => exact ⟨0, [], false, _, 0, by omega, rfl, rfl, rfl, by simp [Hid, stL_nil], rfl, O7.out, b7⟩
       case round =>
        obtain ⟨j, o, bb, u, m, hj, rfl, rfl, rfl, hst, hlen, hown, hbel7⟩ := hrel
        have hm13 : m <= 13 := by have h1 := (stL_len hst.out).1; have h2 := hlen.out; rw [List.length_take] at h1; omega
        have B8 := belN B6 hbel7
        have hs8 := hbel7.size
        have hs6 := B6.size
        by_cases hlt : j < n
        ·obtain ⟨hkx, b, oo, rfl, hadb, z0, z1, z2, z3⟩ := reads_ent (Hr.out.below B8) hlt
         have q0 : (0 : Int) <= ↑j := by omega
         have q1 : (↑j : Int) < ↑n := by omega
         have hts := Lib.hid (List.take_succ_eq_append_getElem hkx)
         obtain ⟨e, he⟩ : ∃ e, ds[j] = e := ⟨_, rfl⟩
         rw [he] at z0 z1 z2 z3 hts
         clear he
         rcases bb with _ | _
         ·have hbl := beh_less2 (e := (⟨h, q, s, i⟩ : EntD)) (x := e)
          rcases hls : lessB e h q with _ | _
          ·have Hs := Lib.hid (stL_put (x := e) hst.out (by rw [hbl]; exact hls))
           clear hbl
           go_wp2_with fail
           refine (l5Less_any e h q _).mono ?_
           rintro r w8 ⟨rfl, hb8⟩
           rw [hls]
           have hown8 := own_below hown.out hb8 (Nat.le_refl _)
           have y0 := kp_ hb8 z0
           have y1 := kp_ hb8 z1
           have y2 := kp_ hb8 z2
           have y3 := kp_ hb8 z3
           clear z0 z1 z2 z3
           have z8 := hb8.size
           go_wp2_with (first
            | (at_builtin; refine wpList_app _ rfl _ _ _ rfl Tryz.el_ent (hown8.alloc _) rfl (reads_new (_) #[.int .i64 h, .int .i64 q, .string s, .int .i64 i] 38 4 1 rfl) rfl (by simp [Value.oneCell']) (by unfold maxLen; omega) (by omega) (by simp; omega) ?_; intro v9 w9 ow9 _ _ bw9; have Ow9 := Lib.hid ow9; have Cw9 := Lib.hid bw9; have x0 := (bw9.cell (p := ⟨b, oo + j * 4, none⟩) (show b < _ by omega)).trans ((World.cell?_alloc_past _ _ _ (by omega)).trans y0); have x1 := (bw9.cell (p := ⟨b, oo + j * 4 + 1, none⟩) (show b < _ by omega)).trans ((World.cell?_alloc_past _ _ _ (by omega)).trans y1); have x2 := (bw9.cell (p := ⟨b, oo + j * 4 + 2, none⟩) (show b < _ by omega)).trans ((World.cell?_alloc_past _ _ _ (by omega)).trans y2); have x3 := (bw9.cell (p := ⟨b, oo + j * 4 + 3, none⟩) (show b < _ by omega)).trans ((World.cell?_alloc_past _ _ _ (by omega)).trans y3); clear y0 y1 y2 y3; have z9 := bw9.size; rw [sz_al2] at z9; clear ow9 bw9)
            | (at_builtin; refine wpList_app _ rfl _ _ _ rfl Tryz.el_ent (Ow9.out.alloc _) rfl (reads_new (_) #[.int .i64 e.h, .int .i64 e.i, .string e.s, .int .i64 e.d] 38 4 1 rfl) rfl (by simp [Value.oneCell']) (by unfold maxLen; omega) (by omega) (by simp; omega) ?_; intro v10 w10 ow10 _ _ bw10; have Ow10 := Lib.hid ow10; have Cw10 := Lib.hid bw10; clear ow10 bw10))
           go_roundw
           case rel =>
            have h9 := Ow10.out
            refine ⟨j + 1, o ++ [⟨h, q, s, i⟩] ++ [e], true, v10, m + 1 + 1, by omega, by go_num, rfl, rfl, ?_, ?_, ?_, ?_⟩
            ·show _ = _; rw [hts.out]; exact Hs.out
            ·show _ = _; rw [List.length_append, List.length_append, hlen.out]; rfl
            ·show World.ownsRow _ _ _ _ _ _ _; rw [ES_append, ES_append]; exact h9
            ·exact (((belN hbel7 hb8).alloc (by omega) _).trans Cw9.out).alloc (by omega) _ |>.trans Cw10.out
           case measure => simp [intOf]; omega
          ·have Hs := Lib.hid (stL_hold (x := e) hst.out (by rw [hbl]; exact hls))
           clear hbl
           go_wp2_with fail
           refine (l5Less_any e h q _).mono ?_
           rintro r w8 ⟨rfl, hb8⟩
           rw [hls]
           have hown8 := own_below hown.out hb8 (Nat.le_refl _)
           have y0 := kp_ hb8 z0
           have y1 := kp_ hb8 z1
           have y2 := kp_ hb8 z2
           have y3 := kp_ hb8 z3
           have z8 := hb8.size
           clear z0 z1 z2 z3
           go_wp2_with (at_builtin; refine wpList_app _ rfl _ _ _ rfl Tryz.el_ent (hown8.alloc _) rfl (reads_new (_) #[.int .i64 e.h, .int .i64 e.i, .string e.s, .int .i64 e.d] 38 4 1 rfl) rfl (by simp [Value.oneCell']) (by unfold maxLen; omega) (by omega) (by simp; omega) ?_; intro v9 w9 ow9 _ _ bw9; have Ow9 := Lib.hid ow9; have Cw9 := Lib.hid bw9; clear ow9 bw9)
           go_roundw
           case rel =>
            have h9 := Ow9.out
            refine ⟨j + 1, o ++ [e], false, v9, m + 1, by omega, by go_num, rfl, rfl, ?_, ?_, ?_, ?_⟩
            ·show _ = _; rw [hts.out]; exact Hs.out
            ·show _ = _; rw [List.length_append, hlen.out]; rfl
            ·show World.ownsRow _ _ _ _ _ _ _; rw [ES_append]; exact h9
            ·exact ((belN hbel7 hb8).alloc (by omega) _).trans Cw9.out
           case measure => simp [intOf]; omega
         ·have Hs := Lib.hid (stL_on (x := e) hst.out)
          go_wp2_with (at_builtin; refine wpList_app _ rfl _ _ _ rfl Tryz.el_ent (hown.out.alloc _) rfl (reads_new (_) #[.int .i64 e.h, .int .i64 e.i, .string e.s, .int .i64 e.d] 38 4 1 rfl) rfl (by simp [Value.oneCell']) (by unfold maxLen; omega) (by omega) (by simp; omega) ?_; intro v9 w9 ow9 _ _ bw9; have Ow9 := Lib.hid ow9; have Cw9 := Lib.hid bw9; clear ow9 bw9)
          go_roundw
          case rel =>
           have h9 := Ow9.out
           refine ⟨j + 1, o ++ [e], true, v9, m + 1, by omega, by go_num, rfl, rfl, ?_, ?_, ?_, ?_⟩
           ·show _ = _; rw [hts.out]; exact Hs.out
           ·show _ = _; rw [List.length_append, hlen.out]; rfl
           ·show World.ownsRow _ _ _ _ _ _ _; rw [ES_append]; exact h9
           ·exact (belA hbel7 _).trans Cw9.out
          case measure => simp [intOf]; omega
        ·obtain rfl : n = j := by omega
         rw [List.take_of_length_le (by have := HL.out; omega)] at hst
         rcases bb with _ | _
         ·have Hs := Lib.hid (show addP ds s i = (o ++ [⟨h, q, s, i⟩], true) by rw [Hf.out, hE2.out, stL_end1 hst.out])
          go_wp2_with (at_builtin; refine wpList_app _ rfl _ _ _ rfl Tryz.el_ent (hown.out.alloc _) rfl (reads_new (_) #[.int .i64 h, .int .i64 q, .string s, .int .i64 i] 38 4 1 rfl) rfl (by simp [Value.oneCell']) (by unfold maxLen; omega) (by omega) (by simp; omega) ?_; intro v9 w9 ow9 _ _ bw9; have Ow9 := Lib.hid ow9; have Cw9 := Lib.hid bw9; clear ow9 bw9)
          refine bodyPost_ret (v := .tuple #[v9, .bool true]) (by simp [results, Tryz.results180, go_sem]) rfl ⟨chgAt_end (n := m + 1) Hs.out rfl (by rw [List.length_append, hlen.out]; rfl) ?_, ?_⟩
          ·have h9 := Ow9.out
           rw [ES_append]
           exact own_more h9 (Nat.le_trans hbase B6.size)
          ·exact B6.trans (((hbel7.alloc (by omega) _).trans Cw9.out).mono B6.size)
         ·have Hs := Lib.hid (show addP ds s i = (o, true) by rw [Hf.out, hE2.out, stL_end2 hst.out])
          go_wp2
          refine bodyPost_ret (v := .tuple #[u11, .bool true]) (by simp [results, Tryz.results180, go_sem]) rfl ⟨chgAt_end Hs.out rfl hlen.out (own_more hown.out (Nat.le_trans hbase B6.size)), B8⟩
  ·have Hf := Lib.hid (addP_no (s := s) (id := i) Hok.out (fun h => absurd (hf.symm.trans h.2.1) (by simp)))
   have q0 : ¬ ((k : Int) < 0) := by omega
   have q1 : (0 : Int) <= (k : Int) := by omega
   clear hf
   go_wp2
   refine bodyPost_ret (v := .tuple #[.slice A n c, .bool false]) (by simp [results, Tryz.results180, go_sem]) rfl ⟨chgAt_end Hf.out rfl HL.out Own4.out, B4⟩

end Go.Proofs.YtjjniapamdleoaaGreatDoor
