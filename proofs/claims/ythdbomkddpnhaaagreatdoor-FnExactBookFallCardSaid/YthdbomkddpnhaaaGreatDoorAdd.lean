/- An entry is put in, in the program. -/
import Derived.Test.YthdbomkddpnhaaaGreatDoorChg
namespace Go.Proofs.YthdbomkddpnhaaaGreatDoor
open Go Go.RowKit

set_option maxHeartbeats 1000000 in
theorem add_clo (e : EntD) (B : Nat) (h k : Int) (s : ByteArray) (d : Int) (w : World) (hB : Blk w B 72 #[.int .i64 h, .int .i64 k, .string s, .int .i64 d]) :
    Calls Tryz.prog 231 #[.agg #[.int .i64 e.h, .int .i64 e.i, .string e.s, .int .i64 e.d], .pointer (some ⟨B, 0, none⟩)] w fun r w' => r = .returned (.bool (isPl h k e)) ∧ Below w.heap.size w w' := by
  have c0 := hB.get (x := .int .i64 h) 0 rfl
  have c1 := hB.get (x := .int .i64 k) 1 rfl
  have hlt := hB.lt
  clear hB
  by_cases h1 : e.h = h
  · subst h1
    by_cases h2 : e.i = k
    · subst h2
      go_enter Tryz.func231, Tryz.ntmps231
      go_wp2
      go_ret
      exact ⟨ret_bool (by simp [isPl]), belA (bel0 w) _⟩
    · have t2 : (e.i == k) = false := by simpa using h2
      go_enter Tryz.func231, Tryz.ntmps231
      go_wp2
      go_ret
      exact ⟨ret_bool (by simp [isPl, h2]), belA (bel0 w) _⟩
  · have t1 : (e.h == h) = false := by simpa using h1
    go_enter Tryz.func231, Tryz.ntmps231
    go_wp2
    go_ret
    exact ⟨ret_bool (by simp [isPl, h1]), belA (bel0 w) _⟩

set_option maxRecDepth 100000 in
set_option maxHeartbeats 2000000 in
theorem indexFunc_add (p : EntD → Bool) (cap : Value) (A : Option Addr) (n c : Nat) (ds : List EntD) (hn : n ≤ 9223372036854775807) (w : World) (hr : Reads w w.heap.size 4 A n (ES ds))
    (hcl : ∀ W, Below w.heap.size w W → ∀ e ∈ ds, Calls Tryz.prog 231 #[.agg #[.int .i64 e.h, .int .i64 e.i, .string e.s, .int .i64 e.d], cap] W fun r w' => r = .returned (.bool (p e)) ∧ Below W.heap.size W w') :
    Calls Tryz.prog 257 #[.slice A n c, .func (.func 231) #[] #[cap]] w fun e w' => ∃ r : Int, e = .returned (.int .i64 r) ∧ IdxE ds p r ∧ Below w.heap.size w w' := by
  have hl : ds.length = n := by have := hr.1; rw [ES_length] at this; omega
  have Hr := Lib.hid hr
  have HL := Lib.hid hl
  have Hcl := Lib.hid hcl
  clear hr hl hcl
  go_enter Tryz.func257, Tryz.ntmps257
  go_wp2
  go_loopw [8] (fun i wr => ∃ (k : Nat), k ≤ n ∧ i = .int .i64 k ∧ Hid ((ds.take k).find? p = none) ∧ Below w.heap.size w wr)
    (fun i _ => n - (intOf i).toNat)
  case atStart => exact ⟨0, by omega, rfl, by simp [Hid], bel0 w⟩
  case round =>
    obtain ⟨k, hk, rfl, hnone, hbel⟩ := hrel
    by_cases hlt : k < n
    · obtain ⟨hkx, b, o, rfl, hadb, z0, z1, z2, z3⟩ := reads_ent (Hr.out.below hbel) hlt
      have q0 : (0 : Int) ≤ ↑k := by omega
      have q1 : (↑k : Int) < ↑n := by omega
      have hts := Lib.hid (List.take_succ_eq_append_getElem hkx)
      have hdr := Lib.hid (show ds = ds.take k ++ ds[k] :: ds.drop (k + 1) by rw [← List.drop_eq_getElem_cons hkx, List.take_append_drop])
      have hck := Lib.hid (Hcl.out wr hbel ds[k] (List.getElem_mem hkx))
      obtain ⟨e, he⟩ : ∃ e, ds[k] = e := ⟨_, rfl⟩
      have He := Lib.hid he
      rw [he] at z0 z1 z2 z3 hts hdr hck
      clear he
      rcases hp : p e with _ | _
      · have Hm := Lib.hid (find_miss (p := p) hnone.out hp)
        have Hp := Lib.hid hp
        clear hp
        go_wp2_with fail
        refine hck.out.mono ?_
        rintro r w2 ⟨rfl, hb2⟩
        rw [Hp.out]
        go_wp2
        go_roundw
        case rel => exact ⟨k + 1, by omega, by go_num, by show _ = _; rw [hts.out]; exact Hm.out, belN hbel hb2⟩
        case measure => simp [intOf]; omega
      · have Hf := Lib.hid (show ds.find? p = some e by rw [hdr.out]; exact find_hit (p := p) hnone.out hp)
        have Hp := Lib.hid hp
        clear hp
        go_wp2_with fail
        refine hck.out.mono ?_
        rintro r w2 ⟨rfl, hb2⟩
        rw [Hp.out]
        go_wp2
        go_ret
        exact ⟨_, rfl, .inr ⟨k, hkx, rfl, by rw [Hf.out, He.out]⟩, belN hbel hb2⟩
    · have Hf := Lib.hid (show ds.find? p = none by have := hnone.out; rwa [List.take_of_length_le (by have := HL.out; omega)] at this)
      go_wp2
      go_ret
      exact ⟨_, rfl, .inl ⟨rfl, Hf.out⟩, hbel⟩

set_option maxRecDepth 100000 in
set_option maxHeartbeats 2000000 in
theorem containsFunc_add (p : EntD → Bool) (cap : Value) (A : Option Addr) (n c : Nat) (ds : List EntD) (hn : n ≤ 9223372036854775807) (w : World) (hr : Reads w w.heap.size 4 A n (ES ds))
    (hcl : ∀ W, Below w.heap.size w W → ∀ e ∈ ds, Calls Tryz.prog 231 #[.agg #[.int .i64 e.h, .int .i64 e.i, .string e.s, .int .i64 e.d], cap] W fun r w' => r = .returned (.bool (p e)) ∧ Below W.heap.size W w') :
    Calls Tryz.prog 191 #[.slice A n c, .func (.func 231) #[] #[cap]] w fun e w' => e = .returned (.bool (ds.any p)) ∧ Below w.heap.size w w' := by
  have H := Lib.hid (indexFunc_add p cap A n c ds hn w hr hcl)
  clear hr hcl
  go_enter Tryz.func191, Tryz.ntmps191
  go_wp2_with fail
  refine H.out.mono ?_
  rintro e w1 ⟨r, rfl, hi, hb1⟩
  have Hi := Lib.hid (idx_any hi)
  clear hi
  go_wp2
  go_ret
  exact ⟨ret_bool (by first | exact Hi.out | simpa using Hi.out), hb1⟩

set_option maxRecDepth 100000 in
set_option maxHeartbeats 4000000 in
theorem add_impl (A : Option Addr) (n c : Nat) (ds : List EntD) (hz : ∀ e ∈ ds, e.s.size ≤ 2000000) (hn : n ≤ 9223372036854775807) (s : ByteArray) (hs : s.size ≤ 2000000) (i : Int) (w : World) (hT : Tab w) (hr : Reads w w.heap.size 4 A n (ES ds)) :
    Calls Tryz.prog 167 #[.slice A n c, .string s, .int .i64 i] w fun e w' => ChgPost w (addP ds s i) e w' ∧ Below w.heap.size w w' := by
  have hl : ds.length = n := by have := hr.1; rw [ES_length] at this; omega
  have Hr := Lib.hid hr
  have HL := Lib.hid hl
  have HT := Lib.hid hT
  clear hT hr hl
  rcases hok : dirOkB ds with _ | _
  · have Hf := Lib.hid (addP_bad (s := s) (id := i) hok)
    have Hok := Lib.hid hok
    clear hok
    go_enter Tryz.func167, Tryz.ntmps167
    go_wp2_with fail
    refine (dirOk_impl A n c ds hz _ HT.out hn Hr.out).mono ?_
    rintro e w1 ⟨rfl, hb1⟩
    rw [Hok.out]
    go_wp2
    refine bodyPost_ret (v := .tuple #[.slice none 0 0, .bool false]) (by simp [results, Tryz.results167, go_sem]) rfl ⟨chg_bad Hf.out rfl, hb1⟩
  · have h12 : n ≤ 12 := by have := dir12 hok; have := HL.out; omega
    have Hok := Lib.hid hok
    clear hok
    rcases hnm : nameOkB s with _ | _
    · have Hf := Lib.hid (addP_no (s := s) (id := i) Hok.out (fun h => by rw [hnm] at h; exact absurd h.1 (by simp)))
      have Hnm := Lib.hid hnm
      clear hnm
      go_enter Tryz.func167, Tryz.ntmps167
      go_wp2_with fail
      refine (dirOk_impl A n c ds hz _ HT.out hn Hr.out).mono ?_
      rintro e w1 ⟨rfl, hb1⟩
      rw [Hok.out]
      go_wp2_with fail
      refine (copyEnts_impl A n c ds (by omega) _ ((Hr.out.below hb1).more hb1.size)).mono ?_
      rintro e w2 ⟨v, rfl, own2, hb2⟩
      have Own2 := Lib.hid own2
      have B2 := belN hb1 hb2
      clear own2
      go_wp2_with fail
      refine (nameOk_impl s hs _ (HT.out.bl B2)).mono ?_
      rintro e w3 ⟨rfl, hb3⟩
      rw [Hnm.out]
      have Own3 := Lib.hid (own_below Own2.out hb3 (Nat.le_refl _))
      have B3 := belN B2 hb3
      clear Own2
      go_wp2
      refine bodyPost_ret (v := .tuple #[v, .bool false]) (by simp [results, Tryz.results167, go_sem]) rfl ⟨chg_end Hf.out rfl HL.out (own_more Own3.out hb1.size), B3⟩
    · have Hnm := Lib.hid hnm
      clear hnm
      go_enter Tryz.func167, Tryz.ntmps167
      go_wp2_with fail
      refine (dirOk_impl A n c ds hz _ HT.out hn Hr.out).mono ?_
      rintro e w1 ⟨rfl, hb1⟩
      rw [Hok.out]
      go_wp2_with fail
      refine (copyEnts_impl A n c ds (by omega) _ ((Hr.out.below hb1).more hb1.size)).mono ?_
      rintro e w2 ⟨v, rfl, own2, hb2⟩
      have Own2 := Lib.hid own2
      have B2 := belN hb1 hb2
      clear own2
      go_wp2_with fail
      refine (nameOk_impl s hs _ (HT.out.bl B2)).mono ?_
      rintro e w3 ⟨rfl, hb3⟩
      rw [Hnm.out]
      have Own3 := Lib.hid (own_below Own2.out hb3 (Nat.le_refl _))
      have B3 := belN B2 hb3
      clear Own2
      go_wp2_with fail
      refine (entAt_impl A n c ds hz hn s hs _ (HT.out.bl B3) ((Hr.out.below B3).more B3.size)).mono ?_
      rintro e w4 ⟨r, rfl, ha, hb4⟩
      have Own4 := Lib.hid (own_below Own3.out hb4 (Nat.le_refl _))
      have B4 := belN B3 hb4
      have hix := at_idx Hok.out ha
      clear ha Own3
      rcases hix with ⟨rfl, hf⟩ | ⟨k, hk, rfl, hf⟩
      · have Hfn := Lib.hid hf
        clear hf
        rcases hid : inI i 1 100000 with _ | _
        · have Hf := Lib.hid (addP_no (s := s) (id := i) Hok.out (fun h => by rw [hid] at h; exact absurd h.2.2.1 (by simp)))
          have Hid' := Lib.hid hid
          clear hid
          go_wp2_with fail
          refine (isId_q i _).mono ?_
          rintro e w5 ⟨rfl, rfl⟩
          rw [Hid'.out]
          go_wp2
          refine bodyPost_ret (v := .tuple #[v, .bool false]) (by simp [results, Tryz.results167, go_sem]) rfl ⟨chg_end Hf.out rfl HL.out (own_more Own4.out hb1.size), B4⟩
        · have Hid' := Lib.hid hid
          clear hid
          by_cases hn12 : n = 12
          · have Hf := Lib.hid (addP_no (s := s) (id := i) Hok.out (fun h => h.2.2.2 (by rw [HL.out]; exact hn12)))
            subst hn12
            go_wp2_with fail
            refine (isId_q i _).mono ?_
            rintro e w5 ⟨rfl, rfl⟩
            rw [Hid'.out]
            go_wp2
            refine bodyPost_ret (v := .tuple #[v, .bool false]) (by simp [results, Tryz.results167, go_sem]) rfl ⟨chg_end Hf.out rfl HL.out (own_more Own4.out hb1.size), B4⟩
          · have Hf := Lib.hid (addP_yes (s := s) (id := i) Hok.out ⟨Hnm.out, Hfn.out, Hid'.out, by rw [HL.out]; exact hn12⟩)
            have t12 : ((n : Int) == 12) = false := by simpa using (show ¬ ((n : Int) = 12) by omega)
            have t12' : ¬ ((n : Int) = 12) := by omega
            go_wp2_with fail
            refine (isId_q i _).mono ?_
            rintro e w5 ⟨rfl, rfl⟩
            rw [Hid'.out]
            go_wp2_with fail
            refine (hashOf_impl s hs _ (HT.out.bl B4)).mono ?_
            rintro e w5 ⟨rfl, hb5⟩
            have Own5 := Lib.hid (own_below Own4.out hb5 (Nat.le_refl _))
            have B5 := belN B4 hb5
            have hK := ixL_bd Hok.out (hashI s)
            have hKa := fun k h0 h1 => ixL_any Hok.out (hashI s) k h0 h1
            have HE : Hid (newE ds s i = ⟨hashI s, ixL (hashI s) ds, s, i⟩) := rfl
            obtain ⟨h, hh⟩ : ∃ h, hashI s = h := ⟨_, rfl⟩
            obtain ⟨K, hKK⟩ : ∃ K, ixL h ds = K := ⟨_, rfl⟩
            rw [hh] at hK hKa HE ⊢
            rw [hKK] at hK hKa HE
            have HKa := Lib.hid hKa
            have hK12 : K ≤ 12 := by have := HL.out; omega
            obtain ⟨hK0, _⟩ := hK
            clear hKa hh hKK Own4
            obtain ⟨A', c', rfl, hcc, hcm, _⟩ := own_vals Own5.out
            unfold maxLen at hcm
            go_wp2_with fail
            obtain ⟨W6, hW6⟩ : ∃ W, w5.alloc (.cells #[.int .i64 h, .int .i64 0, .string s, .int .i64 i] 72) = W := ⟨_, rfl⟩
            have hO : Blk W6 w5.heap.size 72 #[.int .i64 h, .int .i64 0, .string s, .int .i64 i] := by rw [← hW6]; exact Blk.new' _ _ _ _ rfl
            have b6 : Below w5.heap.size w5 W6 := by rw [← hW6]; exact belA (bel0 w5) _
            rw [hW6]
            have HO := Lib.hid hO
            clear hW6 hO
            go_loopw [] (fun wr => ∃ k : Int, 0 ≤ k ∧ k ≤ K ∧ Hid (Blk wr w5.heap.size 72 #[.int .i64 h, .int .i64 k, .string s, .int .i64 i]) ∧ Below w5.heap.size w5 wr)
              (fun wr => (K - intOf ((wr.cell? ⟨w5.heap.size, 1, none⟩).getD (.int .i64 0))).toNat)
            case atStart => exact ⟨0, by omega, hK0, HO.out, b6⟩
            case round =>
              obtain ⟨k, hk0, hkK, hB, hbel⟩ := hrel
              have B7 := belN B5 hbel
              have hq := Lib.hid (HKa.out k hk0 hkK)
              have hBm := Lib.hid (hB.out.get (x := .int .i64 k) 1 rfl)
              go_wp2_with fail
              refine (containsFunc_add (isPl h k) (.pointer (some ⟨w5.heap.size, 0, none⟩)) A n c ds hn _ ((Hr.out.below B7).more B7.size) (fun W hW e _ => add_clo e w5.heap.size h k s i W (hB.out.below hW hB.out.lt))).mono ?_
              rintro e w8 ⟨rfl, hb8⟩
              have hB8 := hB.out.below hb8 hB.out.lt
              have b8 := belN hbel hb8
              rw [hq.out]
              by_cases hlt : k < K
              · rw [decide_eq_true hlt]
                have c1 := hB8.get (x := .int .i64 k) 1 rfl
                have f1 := hB8.frozen 1
                have l8 := hB8.lt
                have hN := Lib.hid (hB8.put 1 (.int .i64 (k + 1)) #[.int .i64 h, .int .i64 (k + 1), .string s, .int .i64 i] rfl)
                clear hB8 hq
                go_wp2
                go_roundw
                case rel => exact ⟨k + 1, by omega, by omega, hN.out, belC b8 _ _ (Nat.le_refl _) _⟩
                case measure => rw [hN.out.get (x := .int .i64 (k + 1)) 1 rfl, hBm.out]; simp [intOf]; omega
              · obtain rfl : K = k := by omega
                rw [decide_eq_false (by omega)]
                have Own8 := Lib.hid (own_below Own5.out b8 (Nat.le_refl _))
                have B8 := belN B5 b8
                have HB8 := Lib.hid hB8
                have hl58 : w5.heap.size < w8.heap.size := hB8.lt
                clear hB8 hq hBm
                go_wp2
                go_loopw [10] (fun a wr2 => ∃ j : Nat, j ≤ n ∧ a = .int .i64 j ∧ Hid (∀ x ∈ ds.take j, behB ⟨h, K, s, i⟩ x.h x.i = true) ∧ Below w8.heap.size w8 wr2)
                  (fun a _ => n - (intOf a).toNat)
                case atStart => exact ⟨0, by omega, rfl, by simp [Hid], bel0 w8⟩
                case round =>
                  obtain ⟨j, hj, rfl, hall, hbel9⟩ := hrel
                  rename World => w9
                  have hB9 := HB8.out.below hbel9 HB8.out.lt
                  have c0 := hB9.get (x := .int .i64 h) 0 rfl
                  have c1 := hB9.get (x := .int .i64 K) 1 rfl
                  have c2 := hB9.get (x := .string s) 2 rfl
                  have c3 := hB9.get (x := .int .i64 i) 3 rfl
                  have l9 := hB9.lt
                  have HB9 := Lib.hid hB9
                  have Own9 := Lib.hid (own_below Own8.out hbel9 (Nat.le_refl _))
                  have B9 := belN B8 hbel9
                  clear hB9
                  by_cases hlt : j < n
                  · obtain ⟨A9, c9, he9, _, _, hr9⟩ := own_vals Own9.out
                    simp only [Value.slice.injEq] at he9
                    obtain ⟨rfl, _, rfl⟩ := he9
                    obtain ⟨hkx, b, o, rfl, hadb, z0, z1, _, _⟩ := reads_ent hr9 hlt
                    have q0 : (0 : Int) ≤ ↑j := by omega
                    have q1 : (↑j : Int) < ↑n := by omega
                    have hts := Lib.hid (List.take_succ_eq_append_getElem hkx)
                    clear hr9
                    rcases hbh : behB ⟨h, K, s, i⟩ ds[j].h ds[j].i with _ | _
                    · skip
                      go_wp2_with fail
                      go_region_held3 (fun w' => w'.cell? ⟨w5.heap.size, 0, none⟩ = some (.int .i64 h) ∧ w'.cell? ⟨w5.heap.size, 1, none⟩ = some (.int .i64 K) ∧ w'.cell? ⟨w5.heap.size, 2, none⟩ = some (.string s) ∧ w'.cell? ⟨w5.heap.size, 3, none⟩ = some (.int .i64 i) ∧ w'.cell? ⟨b, o + j * 4, none⟩ = some (.int .i64 ds[j].h) ∧ w'.cell? ⟨b, o + j * 4 + 1, none⟩ = some (.int .i64 ds[j].i))
                        (first | go_keep | (refine ⟨keep1 hb10 ?_, keep1 hb10 ?_, keep1 hb10 ?_, keep1 hb10 ?_, keep1 hb10 ?_, keep1 hb10 ?_⟩ <;> go_keep))
                        (first
                          | (go_at_call 225; refine (isBehind_any ⟨h, K, s, i⟩ _ _ _).mono ?_; rintro e w10 ⟨rfl, hb10⟩))
                      have Own10 := Lib.hid (show (w10).ownsRow w1.heap.size 72 4 _ n (ES ds) from own_below (w := w9.drew) Own9.out hb10 (Nat.le_refl _))
                      have hB10 : Blk (w10) w5.heap.size 72 #[.int .i64 h, .int .i64 K, .string s, .int .i64 i] := HB9.out.drew.below hb10 HB9.out.lt
                      have B10 := Lib.hid (show Below w.heap.size w (w10) from by first | exact belN B9.drew hb10 | exact belN (below_drewN B9 _) hb10 | exact belN (below_drewN B9 _).drew hb10)
                      have zs : w1.heap.size ≤ (w10).heap.size := by have := hb2.size; have := hb3.size; have := hb4.size; have := hb5.size; have := hbel9.size; have := hb10.size; have h9 : w9.heap.size ≤ w10.heap.size := this; omega
                      have Hf' := Lib.hid (show addP ds s i = (ds.take j ++ (⟨h, K, s, i⟩ : EntD) :: ds.drop j, true) by rw [Hf.out, HE.out, insL_at (k := j) (by have := HL.out; omega) hall.out (fun _ => hbh)])
                      clear c0 c1 c2 c3
                      have c0 := hB10.get (x := .int .i64 h) 0 rfl
                      have c1 := hB10.get (x := .int .i64 K) 1 rfl
                      have c2 := hB10.get (x := .string s) 2 rfl
                      have c3 := hB10.get (x := .int .i64 i) 3 rfl
                      go_wp2_with fail
                      refine (insE_any w1.heap.size n j _ ds ⟨h, K, s, i⟩ (w10).heap.size _ (by omega) (by omega) HL.out (Nat.le_trans zs (by simp)) (Own10.out.alloc _) (Blk.new' _ _ _ _ rfl) (fun e => by have := (Own10.out.lt _ e).2; omega)).mono ?_
                      rintro e w12 ⟨v', rfl, own12, hb12⟩
                      have Own12 := Lib.hid own12
                      have B12 := (belA B10.out _).trans (hb12.mono hb1.size)
                      clear own12
                      go_wp2
                      refine bodyPost_ret (v := .tuple #[v', .bool true]) (by simp [results, Tryz.results167, go_sem]) rfl ⟨chg_end Hf'.out rfl (by have := HL.out; simp; omega) (own_more Own12.out hb1.size), B12⟩
                    · skip
                      go_wp2_with fail
                      go_region_held3 (fun w' => w'.cell? ⟨w5.heap.size, 0, none⟩ = some (.int .i64 h) ∧ w'.cell? ⟨w5.heap.size, 1, none⟩ = some (.int .i64 K) ∧ w'.cell? ⟨w5.heap.size, 2, none⟩ = some (.string s) ∧ w'.cell? ⟨w5.heap.size, 3, none⟩ = some (.int .i64 i) ∧ w'.cell? ⟨b, o + j * 4, none⟩ = some (.int .i64 ds[j].h) ∧ w'.cell? ⟨b, o + j * 4 + 1, none⟩ = some (.int .i64 ds[j].i))
                        (first | go_keep | (refine ⟨keep1 hb10 ?_, keep1 hb10 ?_, keep1 hb10 ?_, keep1 hb10 ?_, keep1 hb10 ?_, keep1 hb10 ?_⟩ <;> go_keep))
                        (first
                          | (go_at_call 225; refine (isBehind_any ⟨h, K, s, i⟩ _ _ _).mono ?_; rintro e w10 ⟨rfl, hb10⟩))
                      go_wp2
                      go_roundw
                      case rel =>
                        refine ⟨j + 1, by omega, by go_num, fun x hx => ?_, by first | exact belN hbel9.drew hb10 | exact belN (below_drewN hbel9 _) hb10 | exact belN (below_drewN hbel9 _).drew hb10⟩
                        rw [hts.out] at hx
                        rcases List.mem_append.1 hx with hx | hx
                        · exact hall.out x hx
                        · rw [List.mem_singleton] at hx; subst hx; exact hbh
                      case measure => simp [intOf]; omega
                  · obtain rfl : n = j := by omega
                    obtain ⟨A9, c9, he9, _, _, hr9⟩ := own_vals Own9.out
                    clear he9 hr9
                    go_wp2_with fail
                    go_quiet (fail)
                    have Own10 := Lib.hid (show (w9.drewN nq).ownsRow w1.heap.size 72 4 _ n (ES ds) from own_dN Own9.out nq)
                    have hB10 : Blk (w9.drewN nq) w5.heap.size 72 #[.int .i64 h, .int .i64 K, .string s, .int .i64 i] := HB9.out.drewN nq
                    have B10 := Lib.hid (show Below w.heap.size w (w9.drewN nq) from below_drewN B9 nq)
                    have zs : w1.heap.size ≤ (w9.drewN nq).heap.size := by have := hb2.size; have := hb3.size; have := hb4.size; have := hb5.size; have := hbel9.size; show w1.heap.size ≤ w9.heap.size; omega
                    have Hf' := Lib.hid (show addP ds s i = (ds.take n ++ (⟨h, K, s, i⟩ : EntD) :: ds.drop n, true) by rw [Hf.out, HE.out, insL_at (k := n) (by have := HL.out; omega) hall.out (fun hh => absurd hh (by have := HL.out; omega))])
                    clear c0 c1 c2 c3
                    have c0 := hB10.get (x := .int .i64 h) 0 rfl
                    have c1 := hB10.get (x := .int .i64 K) 1 rfl
                    have c2 := hB10.get (x := .string s) 2 rfl
                    have c3 := hB10.get (x := .int .i64 i) 3 rfl
                    go_wp2_with fail
                    refine (insE_any w1.heap.size n n _ ds ⟨h, K, s, i⟩ (w9.drewN nq).heap.size _ (by omega) (by omega) HL.out (Nat.le_trans zs (by simp)) (Own10.out.alloc _) (Blk.new' _ _ _ _ rfl) (fun e => by have := (Own10.out.lt _ e).2; omega)).mono ?_
                    rintro e w12 ⟨v', rfl, own12, hb12⟩
                    have Own12 := Lib.hid own12
                    have B12 := (belA B10.out _).trans (hb12.mono hb1.size)
                    clear own12
                    go_wp2
                    refine bodyPost_ret (v := .tuple #[v', .bool true]) (by simp [results, Tryz.results167, go_sem]) rfl ⟨chg_end Hf'.out rfl (by have := HL.out; simp; omega) (own_more Own12.out hb1.size), B12⟩
      · have Hf := Lib.hid (addP_no (s := s) (id := i) Hok.out (fun h => absurd (hf.symm.trans h.2.1) (by simp)))
        have q0 : ¬ ((k : Int) < 0) := by omega
        have q1 : (0 : Int) ≤ (k : Int) := by omega
        clear hf
        go_wp2
        refine bodyPost_ret (v := .tuple #[v, .bool false]) (by simp [results, Tryz.results167, go_sem]) rfl ⟨chg_end Hf.out rfl HL.out (own_more Own4.out hb1.size), B4⟩

end Go.Proofs.YthdbomkddpnhaaaGreatDoor
