/- A file that is right: the walk of the reference. -/
import Derived.Test.YtajgenjfhcapjaaFwFil
namespace Go.Proofs.Ytajgenjfhcapjaa
open Go Go.RowKit

set_option maxHeartbeats 400000 in
theorem ends_specq (s : Int) (h0 : 0 ≤ s) (h1 : s ≤ 100) (w : World) :
    Calls Try.prog 52 #[.int .i64 s] w fun e w' => e = .returned (.int .i64 (endsP s)) ∧ w' = w :=
  (ends_spec s h0 h1 w).mono fun _ _ ⟨h, h2⟩ => ⟨h, h2.symm⟩

set_option maxRecDepth 100000 in
set_option maxHeartbeats 8000000 in
theorem filOk_spec (v u : Value) (S : StoD) (F : FilD) (hS : StoSm S) (hF : F.xs.length ≤ 10000000) (w : World) (h : IsSto w v S) (h2 : IsFil w u F) :
    Calls Try.prog 19 #[v, u] w fun e w' => e = .returned (.bool (filOkB S F)) ∧ Below w.heap.size w w' := by
  obtain ⟨A1, c1, A2, c2, rfl, r1, r2⟩ := h
  obtain ⟨A3, c3, rfl, r3⟩ := h2
  obtain ⟨hs1, hs2, hs3⟩ := hS
  obtain ⟨n1, hl1⟩ : ∃ n, S.bs.length = n := ⟨_, rfl⟩
  obtain ⟨n2, hl2⟩ : ∃ n, S.ds.length = n := ⟨_, rfl⟩
  obtain ⟨n3, hl3⟩ : ∃ n, F.xs.length = n := ⟨_, rfl⟩
  obtain ⟨sz, hsz⟩ : ∃ n, F.sz = n := ⟨_, rfl⟩
  have HSto := Lib.hid (show ∀ W, Below w.heap.size w W → IsSto W (.agg #[.slice A1 n1 c1, .slice A2 n2 c2]) S from fun W hb => ⟨A1, c1, A2, c2, by rw [hl1, hl2], r1.nxt hb, r2.nxt hb⟩)
  have Hr1 := Lib.hid (fun W (hb : Below w.heap.size w W) => r1.nxt hb)
  have Hr2 := Lib.hid (fun W (hb : Below w.heap.size w W) => r2.nxt hb)
  have Hr3 := Lib.hid (fun W (hb : Below w.heap.size w W) => r3.nxt hb)
  rw [hl1] at Hr1
  rw [hl2] at Hr2
  rw [hl3] at Hr3 hF
  rw [hl1, hl2, hl3, hsz]
  have Hs2 := Lib.hid hs2
  have Hs3 := Lib.hid hs3
  have Hsz := Lib.hid hsz
  have Hl1 := Lib.hid hl1
  have Hl2 := Lib.hid hl2
  clear r1 r2 r3 hs1 hs2 hs3 hl1 hl2 hl3 hsz
  obtain ⟨W1, hW1⟩ : ∃ W1, (w.alloc (.cells #[.slice A1 n1 c1, .slice A2 n2 c2] 31)).alloc (.cells #[.int .i64 sz, .slice A3 n3 c3] 34) = W1 := ⟨_, rfl⟩
  have X : Blk W1 w.heap.size 31 #[.slice A1 n1 c1, .slice A2 n2 c2] := by rw [← hW1]; exact (Blk.new' _ _ _ _ rfl).alloc _
  have Y : Blk W1 (w.heap.size + 1) 34 #[.int .i64 sz, .slice A3 n3 c3] := by rw [← hW1]; exact Blk.new' _ _ _ _ (by simp)
  have B1 : Below w.heap.size w W1 := by rw [← hW1]; exact belA (belA (bel0 w) _) _
  have x0 := X.get (x := .slice A1 n1 c1) 0 rfl
  have x1 := X.get (x := .slice A2 n2 c2) 1 rfl
  have lX := X.lt
  have HX := Lib.hid X
  have HY := Lib.hid Y
  clear X Y
  go_enter Try.func19, Try.ntmps19
  go_wp2_with fail
  try rw [hW1]
  clear hW1 x0 x1 lX
  refine (storeOk_spec _ S (fun t ht => by have := Hs3.out t ht; omega) Hs2.out _ (HSto.out _ B1)).mono ?_
  rintro e w2 ⟨rfl, hb2⟩
  have B2 := belN B1 hb2
  have X2 := Lib.hid (HX.out.below hb2 HX.out.lt)
  have Y2 := Lib.hid (HY.out.below hb2 HY.out.lt)
  clear HX HY
  cases hok1 : storeOkB S
  · have HF := Lib.hid (filOk_no1 (F := F) hok1)
    go_wp2
    go_ret
    exact ⟨by rw [HF.out]; rfl, B2⟩
  have y0 := Y2.out.get (x := .int .i64 sz) 0 rfl
  have lY := Y2.out.lt
  go_wp2_with fail
  refine (l1In_any _ _ _ _).mono ?_
  rintro e w' ⟨rfl, rfl⟩
  cases hok2 : inI sz 0 48
  · have HF := Lib.hid (filOk_no2 (S := S) (F := F) (by rw [Hsz.out]; exact hok2))
    go_wp2
    go_ret
    exact ⟨by rw [HF.out]; rfl, B2⟩
  have y1 := Y2.out.get (x := .slice A3 n3 c3) 1 rfl
  go_wp2_with fail
  refine (extsOk_spec A3 n3 c3 F.xs hF _ (Hr3.out _ B2)).mono ?_
  rintro e w3 ⟨rfl, hb3⟩
  have B3 := belN B2 hb3
  have X3 := Lib.hid (X2.out.below hb3 X2.out.lt)
  have Y3 := Lib.hid (Y2.out.below hb3 Y2.out.lt)
  clear X2 Y2 y0 y1 lY
  cases hok3 : extsOkB F.xs
  · have HF := Lib.hid (filOk_no3 (S := S) hok3)
    go_wp2
    go_ret
    exact ⟨by rw [HF.out]; rfl, B3⟩
  have Hall := Lib.hid (extsOk_all hok3)
  have HYes := Lib.hid (fun h => filOk_all (S := S) (F := F) hok1 (by rw [Hsz.out]; exact hok2) hok3 h)
  have Hin := Lib.hid hok2
  have HNo := Lib.hid (show ∀ (i : Nat), i < 12 → okAt S sz (flatP F.xs) i = false → filOkB S F = false from fun i hi h => filOk_not hi (by rw [Hsz.out]; exact h))
  have hsz := inI_true.1 hok2
  have Hst := Lib.hid (storeOk_iff.1 hok1)
  have y0 := Y3.out.get (x := .int .i64 sz) 0 rfl
  have y1 := Y3.out.get (x := .slice A3 n3 c3) 1 rfl
  have lY := Y3.out.lt
  rw [Hsz.out] at HYes
  clear hok1 hok2 hok3
  go_wp2_with fail
  refine (map_spec A3 n3 c3 F.xs Hall.out hF _ (Hr3.out _ B3)).mono ?_
  rintro e w4 ⟨rfl, hown, hb4⟩
  have B4 := belN B3 hb4
  have X4 := Lib.hid (X3.out.below hb4 X3.out.lt)
  have Y4 := Lib.hid (Y3.out.below hb4 Y3.out.lt)
  obtain ⟨g, hg⟩ : ∃ g, w3.heap.size = g := ⟨_, rfl⟩
  have hown : w4.ownsRow w3.heap.size 3 1 (.slice (some ⟨g, 0, none⟩) 12 12) 12 (IV (flatP F.xs)) := by rw [← hg]; exact hown
  rw [hg]
  clear hg
  have Hbd := Lib.hid (flatP_bd Hall.out)
  have Hfl := Lib.hid (flatP_len F.xs)
  obtain ⟨m, hm⟩ : ∃ m, flatP F.xs = m := ⟨_, rfl⟩
  rw [hm] at hown HYes HNo Hbd Hfl
  have Own4 := Lib.hid hown
  clear X3 Y3 y0 y1 lY hm hown
  go_wp2
  go_loopw [6] (fun i wr => ∃ j : Nat, j ≤ 12 ∧ i = .int .i64 j ∧ Hid (∀ k, k < j → okBit S sz m k = true) ∧ Hid (wr.ownsRow w3.heap.size 3 1 (.slice (some ⟨g, 0, none⟩) 12 12) 12 (IV m)) ∧ Hid (Blk wr w.heap.size 31 #[.slice A1 n1 c1, .slice A2 n2 c2]) ∧ Hid (Blk wr (w.heap.size + 1) 34 #[.int .i64 sz, .slice A3 n3 c3]) ∧ Below w.heap.size w wr) (fun i _ => 12 - (intOf i).toNat)
  case atStart => exact ⟨0, by omega, rfl, fun k h => by omega, Own4.out, X4.out, Y4.out, B4⟩
  case round =>
    clear Own4 X4 Y4 B4
    obtain ⟨j, hj, rfl, HN, Own, X, Y, B⟩ := hrel
    by_cases hlt : j < 12
    · have q0 : (0 : Int) ≤ ↑j := by omega
      have q1 : (↑j : Int) < 12 := by omega
      have hjm : j < m.length := by have := Hfl.out; omega
      have z0 : wr.cell? ⟨g, j, none⟩ = some (.int .i64 m[j]) := by rw [Own.out.cellAt j (by omega)]; exact IV_get _ _ hjm
      have hbd := Hbd.out _ (List.getElem_mem hjm)
      have hgd := getD_at hjm
      have hgl := (own_ltX Own.out).2
      have step : okBit S sz m j = true → Hid (∀ k, k < j + 1 → okBit S sz m k = true) := fun h k hk => by
        by_cases e : k = j
        · subst e; exact h
        · exact HN.out k (by omega)
      have Hstep := Lib.hid step
      clear step
      obtain ⟨x, hx⟩ : ∃ x, m[j] = x := ⟨_, rfl⟩
      rw [hx] at z0 hbd hgd
      clear hx
      by_cases hneg : x < 0
      · have HN2 := Hstep.out (by unfold okBit; rw [hgd]; simp [hneg])
        have hneg1 : ¬ (0 ≤ x) := by omega
        have hneg2 : decide (0 ≤ x) = false := by simpa using hneg1
        clear hgd
        go_upto_region 7 with fail
        go_quiet (fail)
        rename Nat => nq1
        have OwnN := Lib.hid (own_drewN Own.out nq1)
        have XN := Lib.hid (X.out.drewN nq1)
        have YN := Lib.hid (Y.out.drewN nq1)
        go_wp2
        go_roundw
        case rel => exact ⟨j + 1, by omega, by go_num, HN2.out, OwnN.out, XN.out, YN.out, below_drewN B nq1⟩
        case measure => simp [intOf]; omega
      · obtain ⟨b, rfl⟩ : ∃ b : Nat, x = b := ⟨x.toNat, by omega⟩
        have y0 := Y.out.get (x := .int .i64 sz) 0 rfl
        have lY := Y.out.lt
        have hneg2 : decide ((0 : Int) ≤ (b : Int)) = true := by simp
        have Hgd := Lib.hid hgd
        clear hgd
        have CE := fun W => ends_specq sz hsz.1 (by omega) W
        by_cases hie : (j : Int) < endsP sz
        rotate_left
        · have HF := Lib.hid (HNo.out j hlt (by unfold okAt; rw [okBit_end (by rw [Hgd.out]; omega) hie]; rfl))
          have hie2 : endsP sz ≤ (j : Int) := by omega
          clear hie
          obtain ⟨E, hE⟩ : ∃ E, endsP sz = E := ⟨_, rfl⟩
          simp only [hE] at hie2 CE
          have hie3 : decide (E ≤ (j : Int)) = true := by simpa using hie2
          clear hE
          go_upto_region 7 with fail
          go_quiet ((go_at_call 52; exact Calls.quiet_of_same (CE _)))
          go_wp2
          go_ret
          exact ⟨by rw [HF.out]; rfl, below_drewN B _⟩
        have hbits : b < S.bs.length := by have := Hst.out.1; omega
        obtain ⟨_, ad1, rfl, _, zb⟩ := reads_bit (Hr1.out _ B) (k := b) (by have := Hl1.out; omega)
        have hob := okBit_of Hgd.out hbits hie
        obtain ⟨E, hE⟩ : ∃ E, endsP sz = E := ⟨_, rfl⟩
        simp only [hE] at hie CE
        clear hE
        have x0 := X.out.get (x := .slice (some ad1) n1 c1) 0 rfl
        have lX := X.out.lt
        have p0 : (0 : Int) ≤ (b : Int) := by omega
        have p1 : (b : Int) < (n1 : Int) := by have := Hl1.out; omega
        have p2 : ¬ E ≤ (j : Int) := by omega
        have p3 : decide (E ≤ (j : Int)) = false := by simpa using p2
        cases hbit : S.bs[b]
        · rw [hbit] at zb hob
          have HF := Lib.hid (HNo.out j hlt (by unfold okAt; rw [hob]; rfl))
          clear hob hbit
          go_upto_region 7 with fail
          go_quiet ((go_at_call 52; exact Calls.quiet_of_same (CE _)))
          go_wp2
          go_ret
          exact ⟨by rw [HF.out]; rfl, below_drewN B _⟩
        · rw [hbit] at zb hob
          have HN2 := Hstep.out hob
          clear hob hbit
          go_upto_region 7 with fail
          go_quiet ((go_at_call 52; exact Calls.quiet_of_same (CE _)))
          rename Nat => nq1
          have OwnN := Lib.hid (own_drewN Own.out nq1)
          have XN := Lib.hid (X.out.drewN nq1)
          have YN := Lib.hid (Y.out.drewN nq1)
          clear CE
          go_wp2
          go_roundw
          case rel => first | exact ⟨j + 1, by omega, by go_num, HN2.out, OwnN.out, XN.out, YN.out, below_drewN B nq1⟩ | ((repeat apply Exists.intro); exact ⟨⟨j + 1, by omega, by go_num, HN2.out, OwnN.out, XN.out, YN.out, below_drewN B nq1⟩, rfl⟩)
          case measure => simp [intOf]; omega
    · obtain rfl : j = 12 := by omega
      have HLast := Lib.hid (fun (h : lastOk S sz m = true) => HYes.out (fun i hi => by
        unfold okAt
        rw [HN.out i hi, Bool.true_and]
        exact tail_of_last (storeOk_iff.2 Hst.out) hsz.1 hsz.2 Hbd.out h i (HN.out i hi)))
      have y0 := Y.out.get (x := .int .i64 sz) 0 rfl
      have lY := Y.out.lt
      by_cases hz : sz % 4 = 0
      · have hz2 : (sz % 4 == 0) = true := by simp; omega
        have HF := Lib.hid (HLast.out (by unfold lastOk; rw [show decide (sz % 4 = 0) = true by simpa using hz]; rfl))
        clear hz
        go_wp2
        go_ret
        exact ⟨by rw [HF.out]; rfl, B⟩
      have hz2 : (sz % 4 == 0) = false := by rw [beq_eq_false_iff_ne]; exact hz
      obtain ⟨e0, he0⟩ : ∃ e : Nat, endsP sz - 1 = e := ⟨(endsP sz - 1).toNat, by unfold endsP; omega⟩
      have he12 : e0 < 12 := by unfold endsP at he0; omega
      obtain ⟨E, hE⟩ : ∃ E, endsP sz = E := ⟨_, rfl⟩
      have CE := fun W => ends_specq sz hsz.1 (by omega) W
      have CE2 := fun W => ends_spec sz hsz.1 (by omega) W
      have hE1 : 1 ≤ E ∧ E ≤ 12 := by unfold endsP at hE; omega
      have Hlast := Lib.hid (show lastOk S sz m = (decide (m.getD e0 (-1) < 0) || decide ((S.ds.getD (m.getD e0 (-1)).toNat (str [])).data.toList.drop (sz % 4).toNat = List.replicate (4 - (sz % 4).toNat) 0)) by
        unfold lastOk
        rw [he0, show decide (sz % 4 = 0) = false by simpa using hz]
        simp)
      have Htl := Lib.hid (show okTail S sz m e0 = (decide (m.getD e0 (-1) < 0) || decide ((S.ds.getD (m.getD e0 (-1)).toNat (str [])).data.toList.drop (sz % 4).toNat = List.replicate (4 - (sz % 4).toNat) 0)) by
        unfold okTail
        rw [show (keepP sz e0).toNat = (sz % 4).toNat by unfold keepP; unfold endsP at he0; omega])
      simp only [hE] at he0 CE CE2
      have wE : IntKind.i64.wrap (E - 1) = (e0 : Int) := by rw [IntKind.wrap_i64]; omega
      have e00 : (0 : Int) ≤ (e0 : Int) := by omega
      have e01 : (e0 : Int) < 12 := by omega
      have hjm : e0 < m.length := by have := Hfl.out; omega
      have z0 : wr.cell? ⟨g, e0, none⟩ = some (.int .i64 m[e0]) := by rw [Own.out.cellAt e0 (by omega)]; exact IV_get _ _ hjm
      have hbd := Hbd.out _ (List.getElem_mem hjm)
      have hgd := getD_at hjm
      obtain ⟨x, hx⟩ : ∃ x, m[e0] = x := ⟨_, rfl⟩
      rw [hx] at z0 hbd hgd
      rw [hgd] at Hlast Htl
      clear hx hgd hE hE1 hz
      go_wp2_with fail
      refine (CE2 _).mono ?_
      rintro e w' ⟨rfl, rfl⟩
      by_cases hneg : x < 0
      · have HF := Lib.hid (HLast.out (by rw [Hlast.out, show decide (x < 0) = true by simpa using hneg]; rfl))
        clear CE CE2 he0
        go_wp2
        go_ret
        exact ⟨by rw [HF.out]; rfl, B⟩
      · obtain ⟨b, rfl⟩ : ∃ b : Nat, x = b := ⟨x.toNat, by omega⟩
        have hds : b < S.ds.length := by have := Hst.out.2.1; omega
        obtain ⟨_, ad2, rfl, _, zd⟩ := reads_str (Hr2.out _ B) (k := b) (by have := Hl2.out; omega)
        have hd4 := Hst.out.2.2 _ (List.getElem_mem hds)
        have p0 : (0 : Int) ≤ (b : Int) := by omega
        have p3 : (b : Int) < (n2 : Int) := by have := Hl2.out; omega
        have hneg2 : decide ((b : Int) < 0) = false := by simp
        rw [hneg2, Bool.false_or, Int.toNat_natCast, List.getD_eq_getElem?_getD, List.getElem?_eq_getElem hds, Option.getD_some] at Hlast Htl
        have xd := X.out.get (x := .slice (some ad2) n2 c2) 1 rfl
        have lX := X.out.lt
        have hgl := (own_ltX Own.out).2
        obtain ⟨t, ht⟩ : ∃ t, S.ds[b] = t := ⟨_, rfl⟩
        rw [ht] at zd hd4 Hlast Htl
        obtain ⟨K, hK⟩ : ∃ K : Nat, sz % 4 = K := ⟨(sz % 4).toNat, by omega⟩
        have hK4 : K < 4 := by omega
        rw [hK] at Hlast Htl
        rw [Int.toNat_natCast] at Hlast Htl
        have Hd4 := Lib.hid hd4
        have q4 : t.size ≤ 9223372036854775807 := by omega
        have he0b : E - 1 = (e0 : Int) := he0
        clear ht hd4 he0 hneg
        go_upto_region 12 with fail
        go_quiet ((go_at_call 52; exact Calls.quiet_of_same (CE _)))
        clear CE CE2 zd xd z0 wE he0b
        have BN := below_drewN B nq
        have hK1 : sz % 4 = (K : Int) := hK
        have HK := Lib.hid hK
        clear hK
        rename Nat => nq1
        go_wp2
        clear hK1
        rename World => w5
        go_loopw [9] (fun i wr => ∃ k : Nat, K ≤ k ∧ k ≤ 4 ∧ i = .int .i64 k ∧ Hid (∀ (q : Nat) (hq : q < t.data.toList.length), K ≤ q → q < k → t.data.toList[q] = 0) ∧ w5.drewN nq1 = wr) (fun i _ => 4 - (intOf i).toNat)
        case atStart => exact ⟨K, by omega, by omega, by rfl, fun q _ h1 h2 => by omega, rfl⟩
        case round =>
          obtain ⟨k, hk1, hk2, rfl, HZ, rfl⟩ := hrel
          by_cases hk4 : k < 4
          · have r0 : (0 : Int) ≤ (k : Int) := by omega
            have r1 : (k : Int) < 4 := by omega
            have hsz4 := Hd4.out
            have hkt : k < t.size := by omega
            have r2 : (k : Int) < (t.size : Int) := by omega
            have hby := (t[k]'hkt).toNat_lt
            have hget : t.data.toList[k]'(by rw [size_list]; exact hkt) = t[k] := rfl
            clear hsz4
            by_cases hb0 : t[k] = 0
            · have HZ2 := Lib.hid (show ∀ (q : Nat) (hq : q < t.data.toList.length), K ≤ q → q < k + 1 → t.data.toList[q] = 0 from fun q hq h1 h2 => by
                by_cases e : q = k
                · subst e; rw [hget, hb0]
                · exact HZ.out q hq h1 (by omega))
              have hb1 : (((t[k]'hkt).toNat : Int) == 0) = true := by rw [hb0]; rfl
              have hb2 : (((t[k]'hkt).toNat : Int) != 0) = false := by rw [hb0]; rfl
              clear hb0 hget
              go_wp2
              go_roundw
              case rel => exact ⟨k + 1, by omega, by omega, by go_num, HZ2.out, by first | rfl | trivial⟩
              case measure => simp [intOf]; omega
            · have hne : ¬ (t[k].toNat = 0) := fun h => hb0 (UInt8.toNat_inj.1 h)
              have hb1 : (((t[k]'hkt).toNat : Int) == 0) = false := by rw [beq_eq_false_iff_ne]; omega
              have hb2 : (((t[k]'hkt).toNat : Int) != 0) = true := by rw [bne_iff_ne]; omega
              have HF := Lib.hid (HNo.out e0 he12 (by
                unfold okAt
                rw [Htl.out]
                have : ¬ (t.data.toList.drop K = List.replicate (4 - K) 0) := fun h => by
                  have h2 := congrArg (fun l : List UInt8 => l[k - K]?) h
                  simp only [List.getElem?_drop, show K + (k - K) = k by omega] at h2
                  rw [List.getElem?_eq_getElem (by rw [size_list]; exact hkt), List.getElem?_replicate, if_pos (by omega), hget] at h2
                  injection h2 with h2
                  exact hb0 h2
                rw [show decide (t.data.toList.drop K = List.replicate (4 - K) 0) = false by simpa using this, Bool.and_false]))
              clear hb0 hget hne
              go_wp2
              go_ret
              exact ⟨by rw [HF.out]; rfl, BN⟩
          · obtain rfl : k = 4 := by omega
            have HF := Lib.hid (HLast.out (by
              rw [Hlast.out, decide_eq_true_eq]
              have h4 : t.data.toList.length = 4 := by rw [size_list]; exact Hd4.out
              apply List.ext_getElem
              · rw [List.length_drop, List.length_replicate, h4]
              · intro q h1 h2
                rw [List.getElem_drop, List.getElem_replicate]
                rw [List.length_replicate] at h2
                exact HZ.out _ (by omega) (by omega) (by omega)))
            go_wp2
            go_ret
            exact ⟨by rw [HF.out]; rfl, BN⟩

end Go.Proofs.Ytajgenjfhcapjaa
