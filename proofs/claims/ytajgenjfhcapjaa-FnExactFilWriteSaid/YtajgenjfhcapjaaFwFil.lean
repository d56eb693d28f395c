/- A file that is right: the walks of both sides. -/
import Derived.Test.YtajgenjfhcapjaaFwOkI
import Derived.Deep.RegionHeld3
namespace Go.Proofs.Ytajgenjfhcapjaa
open Go Go.RowKit

theorem tail_iff (t : ByteArray) (K K2 : Nat) : t.extract K t.size = zer K2 ↔ t.data.toList.drop K = List.replicate K2 0 := by
  rw [sub_str, zer, List.take_of_length_le (by rw [size_list]; exact Nat.le_refl _)]
  exact ⟨fun h => by have := congrArg (fun s : ByteArray => s.data.toList) h; simpa [str_list] using this, fun h => by rw [h]⟩
def StoSm (S : StoD) : Prop := S.bs.length ≤ 10000000 ∧ S.ds.length ≤ 10000000 ∧ ∀ t ∈ S.ds, t.size ≤ 10000000
theorem okAt_neg {S : StoD} {s : Int} {m : List Int} {i : Nat} (h : m.getD i (-1) < 0) : okAt S s m i = true := by
  unfold okAt okBit okTail
  have h1 : decide (m.getD i (-1) < 0) = true := by simpa using h
  rw [h1]; rfl
theorem okBit_end {S : StoD} {s : Int} {m : List Int} {i : Nat} (h : ¬ m.getD i (-1) < 0) (he : ¬ (i : Int) < endsP s) : okBit S s m i = false := by
  unfold okBit
  have h1 : decide (m.getD i (-1) < 0) = false := by simpa using h
  have h2 : decide ((i : Int) < endsP s) = false := by simpa using he
  rw [h1, h2]; rfl
theorem okBit_of {S : StoD} {s : Int} {m : List Int} {i b : Nat} (h : m.getD i (-1) = (b : Int)) (hb : b < S.bs.length) (he : (i : Int) < endsP s) : okBit S s m i = S.bs[b] := by
  unfold okBit
  have h1 : decide (m.getD i (-1) < 0) = false := by rw [h]; simp
  have h2 : decide ((i : Int) < endsP s) = true := by simpa using he
  rw [h1, h2, h, Int.toNat_natCast, Bool.false_or, Bool.true_and, List.getD_eq_getElem?_getD, List.getElem?_eq_getElem hb]; rfl
theorem okTail_of {S : StoD} {s : Int} {m : List Int} {i b k : Nat} (h : m.getD i (-1) = (b : Int)) (hb : b < S.ds.length) (hk : (keepP s i).toNat = k) : okTail S s m i = decide (S.ds[b].data.toList.drop k = List.replicate (4 - k) 0) := by
  unfold okTail
  have h1 : decide (m.getD i (-1) < 0) = false := by rw [h]; simp
  rw [h1, h, hk, Int.toNat_natCast, Bool.false_or, List.getD_eq_getElem?_getD, List.getElem?_eq_getElem hb]; rfl

set_option maxRecDepth 100000 in
set_option maxHeartbeats 4000000 in
theorem filOk_impl (v u : Value) (S : StoD) (F : FilD) (hS : StoSm S) (hF : F.xs.length ≤ 10000000) (w : World) (h : IsSto w v S) (h2 : IsFil w u F) :
    Calls Try.prog 32 #[v, u] w fun e w' => e = .returned (.bool (filOkB S F)) ∧ Below w.heap.size w w' := by
  obtain ⟨A1, c1, A2, c2, rfl, r1, r2⟩ := h
  obtain ⟨A3, c3, rfl, r3⟩ := h2
  obtain ⟨hs1, hs2, hs3⟩ := hS
  obtain ⟨n1, hl1⟩ : ∃ n, S.bs.length = n := ⟨_, rfl⟩
  obtain ⟨n2, hl2⟩ : ∃ n, S.ds.length = n := ⟨_, rfl⟩
  obtain ⟨n3, hl3⟩ : ∃ n, F.xs.length = n := ⟨_, rfl⟩
  obtain ⟨sz, hsz⟩ : ∃ n, F.sz = n := ⟨_, rfl⟩
  have HSto := Lib.hid (show ∀ W, Below w.heap.size w W → IsSto W (.agg #[.slice A1 n1 c1, .slice A2 n2 c2]) S from fun W hb => ⟨A1, c1, A2, c2, by rw [hl1, hl2], r1.nxt hb, r2.nxt hb⟩)
  have Hr1 := Lib.hid (fun W (hb : Below w.heap.size w W) => r1.nxt hb)
  have Hr2 := Lib.hid (fun W (hb : Below w.heap.size w W) => r2.nxt hb)
  have Hr3 := Lib.hid (fun W (hb : Below w.heap.size w W) => r3.nxt hb)
  rw [hl1] at Hr1
  rw [hl2] at Hr2
  rw [hl3] at Hr3 hF
  rw [hl1, hl2, hl3, hsz]
  have Hs2 := Lib.hid hs2
  have Hs3 := Lib.hid hs3
  have Hsz := Lib.hid hsz
  have Hl1 := Lib.hid hl1
  have Hl2 := Lib.hid hl2
  clear r1 r2 r3 hs1 hs2 hs3 hl1 hl2 hl3 hsz
  obtain ⟨W1, hW1⟩ : ∃ W1, (w.alloc (.cells #[.slice A1 n1 c1, .slice A2 n2 c2] 31)).alloc (.cells #[.int .i64 sz, .slice A3 n3 c3] 34) = W1 := ⟨_, rfl⟩
  have X : Blk W1 w.heap.size 31 #[.slice A1 n1 c1, .slice A2 n2 c2] := by rw [← hW1]; exact (Blk.new' _ _ _ _ rfl).alloc _
  have Y : Blk W1 (w.heap.size + 1) 34 #[.int .i64 sz, .slice A3 n3 c3] := by rw [← hW1]; exact Blk.new' _ _ _ _ (by simp)
  have B1 : Below w.heap.size w W1 := by rw [← hW1]; exact belA (belA (bel0 w) _) _
  have x0 := X.get (x := .slice A1 n1 c1) 0 rfl
  have x1 := X.get (x := .slice A2 n2 c2) 1 rfl
  have lX := X.lt
  have HX := Lib.hid X
  have HY := Lib.hid Y
  clear X Y
  go_enter Try.func32, Try.ntmps32
  go_wp2_with fail
  try rw [hW1]
  clear hW1 x0 x1 lX
  refine (storeOk_impl _ S (fun t ht => by have := Hs3.out t ht; omega) Hs2.out _ (HSto.out _ B1)).mono ?_
  rintro e w2 ⟨rfl, hb2⟩
  have B2 := belN B1 hb2
  have X2 := Lib.hid (HX.out.below hb2 HX.out.lt)
  have Y2 := Lib.hid (HY.out.below hb2 HY.out.lt)
  clear HX HY
  cases hok1 : storeOkB S
  · have HF := Lib.hid (filOk_no1 (F := F) hok1)
    go_wp2
    go_ret
    exact ⟨by rw [HF.out]; rfl, B2⟩
  have y0 := Y2.out.get (x := .int .i64 sz) 0 rfl
  have lY := Y2.out.lt
  go_wp2_with fail
  refine (within_any _ _ _ _).mono ?_
  rintro e w' ⟨rfl, rfl⟩
  cases hok2 : inI sz 0 48
  · have HF := Lib.hid (filOk_no2 (S := S) (F := F) (by rw [Hsz.out]; exact hok2))
    go_wp2
    go_ret
    exact ⟨by rw [HF.out]; rfl, B2⟩
  have y1 := Y2.out.get (x := .slice A3 n3 c3) 1 rfl
  go_wp2_with fail
  refine (extsOk_impl A3 n3 c3 F.xs hF _ (Hr3.out _ B2)).mono ?_
  rintro e w3 ⟨rfl, hb3⟩
  have B3 := belN B2 hb3
  have X3 := Lib.hid (X2.out.below hb3 X2.out.lt)
  have Y3 := Lib.hid (Y2.out.below hb3 Y2.out.lt)
  clear X2 Y2 y0 y1 lY
  cases hok3 : extsOkB F.xs
  · have HF := Lib.hid (filOk_no3 (S := S) hok3)
    go_wp2
    go_ret
    exact ⟨by rw [HF.out]; rfl, B3⟩
  have Hall := Lib.hid (extsOk_all hok3)
  have HYes := Lib.hid (fun h => filOk_all (S := S) (F := F) hok1 (by rw [Hsz.out]; exact hok2) hok3 h)
  have HNo := Lib.hid (show ∀ (i : Nat), i < 12 → okAt S sz (flatP F.xs) i = false → filOkB S F = false from fun i hi h => filOk_not hi (by rw [Hsz.out]; exact h))
  have hsz := inI_true.1 hok2
  have Hst := Lib.hid (storeOk_iff.1 hok1)
  have y0 := Y3.out.get (x := .int .i64 sz) 0 rfl
  have y1 := Y3.out.get (x := .slice A3 n3 c3) 1 rfl
  have lY := Y3.out.lt
  rw [Hsz.out] at HYes
  clear hok1 hok2 hok3
  go_wp2_with fail
  refine (flat_impl A3 n3 c3 F.xs Hall.out hF _ (Hr3.out _ B3)).mono ?_
  rintro e w4 ⟨v4, rfl, hown, hb4⟩
  have B4 := belN B3 hb4
  have X4 := Lib.hid (X3.out.below hb4 X3.out.lt)
  have Y4 := Lib.hid (Y3.out.below hb4 Y3.out.lt)
  obtain ⟨g, cv, rfl⟩ := own_form1 hown (by omega)
  have Hbd := Lib.hid (flatP_bd Hall.out)
  have Hfl := Lib.hid (flatP_len F.xs)
  obtain ⟨m, hm⟩ : ∃ m, flatP F.xs = m := ⟨_, rfl⟩
  rw [hm] at hown HYes HNo Hbd Hfl
  have Own4 := Lib.hid hown
  clear X3 Y3 y0 y1 lY hm hown
  go_wp2
  go_loopw [27] (fun i wr => ∃ j : Nat, j ≤ 12 ∧ i = .int .i64 j ∧ Hid (∀ k, k < j → okAt S sz m k = true) ∧ Hid (wr.ownsRow w3.heap.size 3 1 (.slice (some ⟨g, 0, none⟩) 12 cv) 12 (IV m)) ∧ Hid (Blk wr w.heap.size 31 #[.slice A1 n1 c1, .slice A2 n2 c2]) ∧ Hid (Blk wr (w.heap.size + 1) 34 #[.int .i64 sz, .slice A3 n3 c3]) ∧ Below w.heap.size w wr) (fun i _ => 12 - (intOf i).toNat)
  case atStart => exact ⟨0, by omega, rfl, fun k h => by omega, Own4.out, X4.out, Y4.out, B4⟩
  case round =>
    clear Own4 X4 Y4 B4
    obtain ⟨j, hj, rfl, HN, Own, X, Y, B⟩ := hrel
    by_cases hlt : j < 12
    · have q0 : (0 : Int) ≤ ↑j := by omega
      have q1 : (↑j : Int) < 12 := by omega
      have hjm : j < m.length := by have := Hfl.out; omega
      have z0 : wr.cell? ⟨g, j, none⟩ = some (.int .i64 m[j]) := by rw [Own.out.cellAt j (by omega)]; exact IV_get _ _ hjm
      have hbd := Hbd.out _ (List.getElem_mem hjm)
      have hgd := getD_at hjm
      have hgl := (own_ltX Own.out).2
      have step : okAt S sz m j = true → Hid (∀ k, k < j + 1 → okAt S sz m k = true) := fun h k hk => by
        by_cases e : k = j
        · subst e; exact h
        · exact HN.out k (by omega)
      have Hstep := Lib.hid step
      clear step
      obtain ⟨x, hx⟩ : ∃ x, m[j] = x := ⟨_, rfl⟩
      rw [hx] at z0 hbd hgd
      clear hx
      by_cases hneg : x < 0
      · have HN2 := Hstep.out (okAt_neg (by rw [hgd]; exact hneg))
        clear hgd
        go_wp2
        go_roundw
        case rel => exact ⟨j + 1, by omega, by go_num, HN2.out, Own.out, X.out, Y.out, B⟩
        case measure => simp [intOf]; omega
      · obtain ⟨b, rfl⟩ : ∃ b : Nat, x = b := ⟨x.toNat, by omega⟩
        have y0 := Y.out.get (x := .int .i64 sz) 0 rfl
        have lY := Y.out.lt
        have Hgd := Lib.hid hgd
        clear hgd
        go_wp2_with fail
        refine (ends_impl sz hsz.1 (by omega) _).mono ?_
        rintro e w' ⟨rfl, rfl⟩
        by_cases hie : (j : Int) < endsP sz
        rotate_left
        · have HF := Lib.hid (HNo.out j hlt (by unfold okAt; rw [okBit_end (by rw [Hgd.out]; omega) hie]; rfl))
          have hie2 : endsP sz ≤ (j : Int) := by omega
          clear hie
          obtain ⟨E, hE⟩ : ∃ E, endsP sz = E := ⟨_, rfl⟩
          rw [hE] at hie2 ⊢
          clear hE
          go_wp2
          go_ret
          exact ⟨by rw [HF.out]; rfl, B⟩
        have hbits : b < S.bs.length := by have := Hst.out.1; omega
        obtain ⟨_, ad1, rfl, _, zb⟩ := reads_bit (Hr1.out _ B) (k := b) (by have := Hl1.out; omega)
        have hob := okBit_of Hgd.out hbits hie
        obtain ⟨E, hE⟩ : ∃ E, endsP sz = E := ⟨_, rfl⟩
        have hEj : 1 ≤ sz - (j : Int) * 4 := by unfold endsP at hie; omega
        rw [hE] at hie ⊢
        clear hE
        have x0 := X.out.get (x := .slice (some ad1) n1 c1) 0 rfl
        have lX := X.out.lt
        have p0 : (0 : Int) ≤ (b : Int) := by omega
        have p1 : (b : Int) < (n1 : Int) := by have := Hl1.out; omega
        have p2 : ¬ E ≤ (j : Int) := by omega
        cases hbit : S.bs[b]
        · rw [hbit] at zb hob
          have HF := Lib.hid (HNo.out j hlt (by unfold okAt; rw [hob]; rfl))
          clear hob hbit
          go_wp2
          go_ret
          exact ⟨by rw [HF.out]; rfl, B⟩
        rw [hbit] at zb hob
        have Hob := Lib.hid hob
        clear hob hbit
        have hds : b < S.ds.length := by have := Hst.out.2.1; omega
        obtain ⟨_, ad2, rfl, _, zd⟩ := reads_str (Hr2.out _ B) (k := b) (by have := Hl2.out; omega)
        have hd4 := Hst.out.2.2 _ (List.getElem_mem hds)
        have p3 : (b : Int) < (n2 : Int) := by have := Hl2.out; omega
        obtain ⟨K, hK⟩ : ∃ K : Nat, keepP sz j = K := ⟨(keepP sz j).toNat, by unfold keepP; omega⟩
        have hK2 : 1 ≤ K ∧ K ≤ 4 := by unfold keepP at hK; omega
        have HT := okTail_of (k := K) Hgd.out hds (by rw [hK]; simp)
        have wj4 : IntKind.i64.wrap ((j : Int) * 4) = (j : Int) * 4 := by rw [IntKind.wrap_i64]; omega
        have wsj : IntKind.i64.wrap (sz - (j : Int) * 4) = sz - (j : Int) * 4 := by rw [IntKind.wrap_i64]; omega
        have hmin : (if sz - (j : Int) * 4 < 4 then sz - (j : Int) * 4 else 4) = (K : Int) := by
          unfold keepP at hK
          split <;> omega
        have Hd4 := Lib.hid hd4
        obtain ⟨t, ht⟩ : ∃ t, S.ds[b] = t := ⟨_, rfl⟩
        rw [ht] at zd hd4 HT
        obtain ⟨K2, hK2e⟩ : ∃ k, k = 4 - K := ⟨_, rfl⟩
        have w4K : IntKind.i64.wrap (K2 : Int) = (K2 : Int) := by rw [IntKind.wrap_i64]; omega
        have i4K : 4 - (K : Int) = (K2 : Int) := by omega
        have k0 : (0 : Int) ≤ (K : Int) := by omega
        have k1 : (K : Int) ≤ (t.size : Int) := by omega
        have k4 : K2 ≤ 4 := by omega
        have HTe := Lib.hid (tail_iff t K K2)
        rw [← hK2e] at HT
        have Hd4t := Lib.hid hd4
        clear ht hd4 hK hK2 hK2e hEj
        go_upto_region 10 with fail
        try rw [hmin]
        clear hmin wj4 wsj
        have xd := X.out.get (x := .slice (some ad2) n2 c2) 1 rfl
        go_region_held3 (fun w' => w'.cell? ⟨w.heap.size, 1, none⟩ = some (.slice (some ad2) n2 c2) ∧ w'.cell? (ad2.add b) = some (.string t)) (first | go_keep | (refine ⟨keep1 hb9 ?_, keep1 hb9 ?_⟩ <;> go_keep))
          (first
            | (go_at_call 36; refine (zeros_impl K2 k4 _).mono ?_; rintro e w9 ⟨rfl, hb9⟩))
        have B9 := belN B.drew hb9
        have X9 := Lib.hid (X.out.drew.below hb9 X.out.drew.lt)
        have Y9 := Lib.hid (Y.out.drew.below hb9 Y.out.drew.lt)
        have Own9 := Lib.hid (own_below (own_drewN Own.out 1) hb9 (Nat.le_refl _))
        clear zd xd lX lY y0 x0 zb z0
        by_cases he : t.extract K t.size = zer K2
        · have hb : (!(t.extract K t.size).toList == (zer K2).toList) = false := by rw [seq_true he]; rfl
          have HN2 := Hstep.out (by unfold okAt; rw [Hob.out, HT]; simpa using HTe.out.1 he)
          clear he HT
          rw [hb]
          go_wp2
          first
            | (go_roundw; case rel => (first | exact ⟨j + 1, by omega, by go_num, HN2.out, Own9.out, X9.out, Y9.out, B9⟩ | ((repeat apply Exists.intro); exact ⟨⟨j + 1, by omega, by go_num, HN2.out, Own9.out, X9.out, Y9.out, B9⟩, rfl⟩)); case measure => (simp [intOf]; omega))
            | exact ⟨⟨j + 1, by omega, by go_num, HN2.out, Own9.out, X9.out, Y9.out, B9⟩, by simp [intOf]; omega⟩
        · have hb : (!(t.extract K t.size).toList == (zer K2).toList) = true := by rw [seq_false he]; rfl
          have HF := Lib.hid (HNo.out j hlt (by unfold okAt; rw [HT]; simpa using fun _ => fun h => he (HTe.out.2 h)))
          clear he HT
          rw [hb]
          go_wp2
          go_ret
          exact ⟨by rw [HF.out]; rfl, B9⟩
    · have HF := Lib.hid (HYes.out (fun i hi => HN.out i (by omega)))
      go_wp2
      go_ret
      exact ⟨by rw [HF.out]; rfl, B⟩

end Go.Proofs.Ytajgenjfhcapjaa
