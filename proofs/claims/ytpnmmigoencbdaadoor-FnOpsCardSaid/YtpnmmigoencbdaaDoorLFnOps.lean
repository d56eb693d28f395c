/- The law FnOps: changes and whole directories are read from their texts, and no other texts are read. The table of known signs is held as the program's text lays it. -/
import Derived.Test.YtpnmmigoencbdaaDoorDraw9
import Derived.Test.YtpnmmigoencbdaaDoorOpsP
import Derived.Test.YtpnmmigoencbdaaDoorOpsS
import Derived.Test.YtpnmmigoencbdaaDoorRHomeS
import Derived.Test.YtpnmmigoencbdaaDoorFrameB
import Derived.Test.YtpnmmigoencbdaaDoorFrameD
namespace Go.Proofs.YtpnmmigoencbdaaDoor
open Go Go.RowKit Go.ChangeShapes Go.WideShapes Go.ChangeAt Go.Joins

theorem readOp_i (s : ByteArray) (hs : s.size ≤ 2000000) {k : Int} {t : ByteArray} {i : Int} {ok : Bool} (h : opP s = ((k, t, i), ok)) (w : World) (hT : Tab w) :
    Calls Tryd.prog 6 #[.string s] w fun e w' => e = .returned (.tuple #[.agg #[.int .i64 k, .string t, .int .i64 i], .bool ok]) ∧ Below w.heap.size w w' :=
  (readOp_impl s hs w hT).mono fun _ _ hp => by rw [h] at hp; exact hp
theorem readOp_s (s : ByteArray) (hs : s.size ≤ 2000000) {k : Int} {t : ByteArray} {i : Int} {ok : Bool} (h : opP s = ((k, t, i), ok)) (w : World) :
    Calls Tryd.prog 11 #[.string s] w fun e w' => e = .returned (.tuple #[.agg #[.int .i64 k, .string t, .int .i64 i], .bool ok]) ∧ Below w.heap.size w w' :=
  (readOp_spec s hs w).mono fun _ _ hp => by rw [h] at hp; exact hp
theorem readHome_i (s : ByteArray) (hs : s.size ≤ 2000000) {q : Int} {L : List EntD} {ok : Bool} (h : homeP s = ((q, L), ok)) (w : World) (hT : Tab w) :
    Calls Tryd.prog 14 #[.string s] w fun e w' => ∃ A c, e = .returned (.tuple #[.int .i64 q, .slice A L.length c, .bool ok]) ∧ IsS w' (.slice A L.length c) L ∧ Below w.heap.size w w' :=
  (readHome_impl s hs w hT).mono fun _ _ ⟨⟨v, he, ho⟩, hb⟩ => by
    rw [h] at he ho
    obtain ⟨A, c, rfl, _, _, hr⟩ := own_vals ho
    exact ⟨A, c, he, ⟨A, c, rfl, hr⟩, hb⟩
theorem readHome_s (s : ByteArray) (hs : s.size ≤ 2000000) {q : Int} {L : List EntD} {ok : Bool} (h : homeP s = ((q, L), ok)) (w : World) :
    Calls Tryd.prog 18 #[.string s] w fun e w' => ∃ A c, e = .returned (.tuple #[.int .i64 q, .slice A L.length c, .bool ok]) ∧ IsS w' (.slice A L.length c) L ∧ Below w.heap.size w w' :=
  (readHome_spec s hs w).mono fun _ _ ⟨⟨v, he, ho⟩, hb⟩ => by
    rw [h] at he ho
    obtain ⟨A, c, rfl, _, _, hr⟩ := own_vals ho
    exact ⟨A, c, he, ⟨A, c, rfl, hr⟩, hb⟩
theorem showBack (s : ByteArray) (hs : s.size ≤ 2000000) {k i : Int} {t : ByteArray} {ok : Bool} (h : opP s = ((k, t, i), ok)) (hok : ok = true) (w : World) (hT : Tab w) :
    Calls Tryd.prog 7 #[.agg #[.int .i64 k, .string t, .int .i64 i]] w fun e w' => e = .returned (.string s) ∧ Below w.heap.size w w' := by
  subst hok
  have hb := opP_back h
  have ht : t.size ≤ 2000000 := by
    cases ho : opOkB k t i with
    | true =>
      have h1 : showOpB k t i = varB k ++ varB i ++ t := by unfold showOpB; rw [if_pos ho]
      rw [hb] at h1
      have h2 := congrArg ByteArray.size h1
      rw [ByteArray.size_append] at h2
      omega
    | false =>
      rw [showOp_no ho] at hb
      have h1 := opP_empty
      rw [hb, h] at h1
      cases h1
  refine (showOp_impl k t i ht w hT).mono ?_
  intro e w' hp
  rw [hb] at hp
  exact hp
theorem homeBack {s : ByteArray} {q : Int} {ds : List EntD} (h : homeP s = ((q, ds), true)) : dirOkB ds = true := by
  have hb := homeP_back h
  cases hc : (inI q 0 1000000 && dirOkB ds) with
  | true => rw [Bool.and_eq_true] at hc; exact hc.2
  | false =>
    rw [showHome_none hc] at hb
    have h1 := homeP_empty
    rw [hb, h] at h1
    cases h1
theorem homeBackI (s : ByteArray) {q : Int} {ds : List EntD} {ok : Bool} (h : homeP s = ((q, ds), ok)) (hok : ok = true) (v : Value) (w : World) (hT : Tab w) (hv : IsS w v ds) :
    Calls Tryd.prog 13 #[.int .i64 q, v] w fun e w' => e = .returned (.string s) ∧ Below w.heap.size w w' := by
  subst hok
  have hd := homeBack h
  have hss := s_short hd
  have h12 := (dirOkB_iff.1 hd).1
  refine (showHome_impl0 q v ds (fun e he => by have := hss e he; omega) (by omega) w hT hv).mono ?_
  intro e w' hp
  rw [homeP_back h] at hp
  exact hp

set_option maxRecDepth 100000 in
set_option maxHeartbeats 16000000 in
theorem law_fnOps (A : Option Addr) (n cp : Nat) (bs : List UInt8) (w : World) (hT : Tab w) (hr : Reads w w.heap.size 1 A n (B8 bs)) :
    Calls Tryd.prog 3 #[.slice A n cp] w fun e w' => e = .returned (.bool true) ∧ Below w.heap.size w w' := by
  have HT := Lib.hid hT
  have Hr := Lib.hid hr
  clear hT hr
  by_cases hbig : 1048576 < n
  · have Hd := Lib.hid (show decide (1048576 < n) = true by simpa using hbig)
    go_enter Tryd.func3, Tryd.ntmps3
    go_wp2_with fail
    refine (big_any A n cp w).mono ?_
    rintro e w1 ⟨rfl, hb1⟩
    rw [Hd.out]
    go_wp2
    go_ret
    exact ⟨rfl, hb1⟩
  have Hd := Lib.hid (show decide (1048576 < n) = false by simpa using hbig)
  go_enter Tryd.func3, Tryd.ntmps3
  go_wp2_with fail
  refine (big_any A n cp w).mono ?_
  rintro e w1 ⟨rfl, hb1⟩
  rw [Hd.out]
  have B1 := hb1
  -- a change
  go_wp2_with fail
  refine (drawShowOp_any A n cp bs (by omega) w1 ((Hr.out.below B1).more B1.size)).mono ?_
  rintro e w2 ⟨k, s, i, rfl, hs, hb2⟩
  have B2 := belN B1 hb2
  obtain ⟨W3, hW3⟩ : ∃ W, w2.alloc (.cells #[.int .i64 k, .string s, .int .i64 i] 25) = W := ⟨_, rfl⟩
  have O3 : Blk W3 w2.heap.size 25 #[.int .i64 k, .string s, .int .i64 i] := by rw [← hW3]; exact Blk.new' _ _ _ _ rfl
  have B3 : Below w.heap.size w W3 := by rw [← hW3]; exact belA B2 _
  go_upto_region 4 with fail
  try rw [hW3]
  clear hW3
  have x0 := O3.get (x := .int .i64 k) 0 rfl
  have x1 := O3.get (x := .string s) 1 rfl
  have x2 := O3.get (x := .int .i64 i) 2 rfl
  have l3 := O3.lt
  go_wp2_with fail
  clear x0 x1 x2 l3
  refine (showOp_impl k s i (by omega) W3 (HT.out.bl B3)).mono ?_
  rintro e w4 ⟨rfl, hb4⟩
  have B4 := belN B3 hb4
  have O4 := O3.below hb4 O3.lt
  have hsz := showOp_sz k i s
  obtain ⟨⟨⟨k', s', i'⟩, ok⟩, hop⟩ : ∃ p, opP (showOpB k s i) = p := ⟨_, rfl⟩
  have hOk : ok = opOkB k s i ∧ (opOkB k s i = true → k' = k ∧ s' = s ∧ i' = i) := by
    cases hk : opOkB k s i with
    | true =>
      rw [opP_show hk] at hop
      injection hop with h1 h2
      injection h1 with h1 h3
      injection h3 with h3 h4
      exact ⟨h2.symm, fun _ => ⟨h1.symm, h3.symm, h4.symm⟩⟩
    | false =>
      rw [showOp_no hk] at hop
      have h := opP_empty
      rw [hop] at h
      exact ⟨h, fun h => by cases h⟩
  have Hro := Lib.hid (fun W hT => readOp_i (showOpB k s i) (by omega) hop W hT)
  obtain ⟨T, hTt⟩ : ∃ T, showOpB k s i = T := ⟨_, rfl⟩
  rw [hTt]
  simp only [hTt] at Hro
  clear hTt hop hsz
  go_wp2_with fail
  refine (Hro.out w4 (HT.out.bl B4)).mono ?_
  rintro e w5 ⟨rfl, hb5⟩
  have B5 := belN B4 hb5
  have O5 := O4.below hb5 O4.lt
  obtain ⟨W6, hW6⟩ : ∃ W, w5.alloc (.cells #[.int .i64 k', .string s', .int .i64 i'] 25) = W := ⟨_, rfl⟩
  have P6 : Blk W6 w5.heap.size 25 #[.int .i64 k', .string s', .int .i64 i'] := by rw [← hW6]; exact Blk.new' _ _ _ _ rfl
  have O6 : Blk W6 w2.heap.size 25 #[.int .i64 k, .string s, .int .i64 i] := by rw [← hW6]; exact O5.alloc _
  have B6 : Below w.heap.size w W6 := by rw [← hW6]; exact belA B5 _
  go_upto_region 5 with fail
  try rw [hW6]
  clear hW6 O3 O4 O5
  obtain ⟨hok1, hok2⟩ := hOk
  have x0 := O6.get (x := .int .i64 k) 0 rfl
  have x1 := O6.get (x := .string s) 1 rfl
  have x2 := O6.get (x := .int .i64 i) 2 rfl
  have l6 := O6.lt
  go_wp2_with fail
  clear x0 x1 x2 l6
  refine (opOk_spec k s i (by omega) W6).mono ?_
  rintro e w7 ⟨rfl, hb7⟩
  have B7 := belN B6 hb7
  have O7 := O6.below hb7 O6.lt
  have P7 := P6.below hb7 P6.lt
  have Hoi := Lib.hid (fun W hT => opOk_impl k s i (by omega) W hT)
  rw [← hok1]
  simp only [← hok1] at Hoi hok2
  clear hok1
  have x0 := O7.get (x := .int .i64 k) 0 rfl
  have x1 := O7.get (x := .string s) 1 rfl
  have x2 := O7.get (x := .int .i64 i) 2 rfl
  have l7 := O7.lt
  have step : ∀ okk : Bool, okk = ok → okk = ok := fun _ h => h
  clear step
  cases ok
  case' true => obtain ⟨rfl, rfl, rfl⟩ := hok2 rfl
  all_goals
    go_wp2_with fail
    clear x0 x1 x2 l7
    refine (Hoi.out w7 (HT.out.bl B7)).mono ?_
    rintro e w8 ⟨rfl, hb8⟩
    have B8' := belN B7 hb8
    have O8 := O7.below hb8 O7.lt
    have P8 := P7.below hb8 P7.lt
  all_goals
    have y0 := P8.get 0 rfl
    have y1 := P8.get 1 rfl
    have y2 := P8.get 2 rfl
    have z0 := O8.get 0 rfl
    have z1 := O8.get 1 rfl
    have z2 := O8.get 2 rfl
    have lp := P8.lt
    have lo := O8.lt
    clear hok2 Hoi Hro P7 O7 P6 O6
    go_wp2_with fail
    clear y0 y1 y2 z0 z1 z2 lp lo P8 O8
    refine (drawReadOp_any A n cp bs (by omega) w8 ((Hr.out.below B8').more B8'.size)).mono ?_
    rintro e w9 ⟨S, rfl, hS, hb9⟩
    have B9 := belN B8' hb9
    obtain ⟨⟨⟨k2, s2, i2⟩, ok2⟩, hop⟩ : ∃ p, opP S = p := ⟨_, rfl⟩
    have Hri := Lib.hid (fun W hT => readOp_i S (by omega) hop W hT)
    have Hrs := Lib.hid (fun W => readOp_s S (by omega) hop W)
    have Hsh := Lib.hid (fun (h : ok2 = true) W hT => showBack S (by omega) hop h W hT)
    clear hop
    go_wp2_with fail
    refine (Hri.out w9 (HT.out.bl B9)).mono ?_
    rintro e w10 ⟨rfl, hb10⟩
    have B10 := belN B9 hb10
    obtain ⟨W11, hW11⟩ : ∃ W, w10.alloc (.cells #[.int .i64 k2, .string s2, .int .i64 i2] 25) = W := ⟨_, rfl⟩
    have Q11 : Blk W11 w10.heap.size 25 #[.int .i64 k2, .string s2, .int .i64 i2] := by rw [← hW11]; exact Blk.new' _ _ _ _ rfl
    have B11 : Below w.heap.size w W11 := by rw [← hW11]; exact belA B10 _
    go_wp2_with fail
    try rw [hW11]
    refine (Hrs.out W11).mono ?_
    rintro e w12 ⟨rfl, hb12⟩
    have B12 := belN B11 hb12
    have Q12 := Q11.below hb12 Q11.lt
    obtain ⟨W13, hW13⟩ : ∃ W, w12.alloc (.cells #[.int .i64 k2, .string s2, .int .i64 i2] 25) = W := ⟨_, rfl⟩
    have Q13 : Blk W13 w10.heap.size 25 #[.int .i64 k2, .string s2, .int .i64 i2] := by rw [← hW13]; exact Q12.alloc _
    have B13 : Below w.heap.size w W13 := by rw [← hW13]; exact belA B12 _
    have y0 := Q13.get 0 rfl
    have y1 := Q13.get 1 rfl
    have y2 := Q13.get 2 rfl
    have lp := Q13.lt
    clear Hri Hrs Q11 Q12 hW11
    cases ok2
    case false =>
      go_wp2_with fail
      refine (drawShowHome_any A n cp bs (by omega) W13 ((Hr.out.below B13).more B13.size)).mono ?_
      rintro e w20 ⟨q, v, ds, rfl, hdl, hdn, own, hb20⟩
      have B20 := belN B13 hb20
      obtain ⟨A20, c20, rfl, _, _, hr20⟩ := own_vals own
      have I20 : Hid (IsS w20 (.slice A20 ds.length c20) ds) := Lib.hid ⟨A20, c20, rfl, hr20⟩
      have Hdn := Lib.hid hdn
      clear own hr20 hdn
      go_wp2_with fail
      refine (showHome_impl0 q _ ds (fun e he => by have := Hdn.out e he; omega) (by omega) w20 (HT.out.bl B20) I20.out).mono ?_
      rintro e w21 ⟨rfl, hb21⟩
      have B21 := belN B20 hb21
      have I21 := Lib.hid (I20.out.next hb21)
      have hTs := showHome_sz q ds
      have Hss := Lib.hid (fun W h => showHome_spec0 q (.slice A20 ds.length c20) ds (fun e he => by have := Hdn.out e he; omega) (by omega) W h)
      obtain ⟨⟨⟨q2, L2⟩, okh⟩, hho⟩ : ∃ p, homeP (showHomeB q ds) = p := ⟨_, rfl⟩
      cases hc : (inI q 0 1000000 && dirOkB ds)
      case true =>
        rw [Bool.and_eq_true] at hc
        have h1 := homeP_show hc.1 hc.2
        rw [hho] at h1
        injection h1 with h1 h2
        injection h1 with h1 h3
        subst h1 h2 h3
        have hne : (showHomeB q2 L2).size ≠ 0 := by
          intro h0
          have hz : showHomeB q2 L2 = str [] := by
            apply bytes_ext
            rw [str_list]
            exact List.eq_nil_of_length_eq_zero (by rw [Array.length_toList]; exact h0)
          have h1 := homeP_empty
          rw [← hz, hho] at h1
          cases h1
        clear hc
        have H2i := Lib.hid (fun W hT => readHome_i _ (by omega) hho W hT)
        clear hho
        obtain ⟨T2, hT2⟩ : ∃ T, showHomeB q2 L2 = T := ⟨_, rfl⟩
        rw [hT2] at H2i Hss hne ⊢
        clear hT2
        go_wp2_with fail
        refine (H2i.out w21 (HT.out.bl B21)).mono ?_
        rintro e w22 ⟨A22, c22, rfl, hi22, hb22⟩
        have B22 := belN B21 hb22
        have I22 := Lib.hid (I21.out.next hb22)
        go_wp2_with fail
        refine (Hss.out w22 I22.out).mono ?_
        rintro e w23 ⟨rfl, hb23⟩
        have B23 := belN B22 hb23
        have I23 := Lib.hid (I22.out.next hb23)
        have J23 := Lib.hid (hi22.next hb23)
        clear hi22
        have hne1 : T2 ≠ ⟨#[]⟩ := by intro h; rw [h] at hne; exact hne rfl
        have hne2 : ¬ (T2.toList = []) := by
          rw [ByteArray.toList_eq]
          intro h
          exact hne1 (bytes_ext h)
        have hne3 : T2.toList.isEmpty = false := by
          cases hl : T2.toList with
          | nil => exact absurd hl hne2
          | cons _ _ => rfl
        have hne4 : (T2.toList == []) = false := by
          cases hl : T2.toList with
          | nil => exact absurd hl hne2
          | cons _ _ => rfl
        have HL := Lib.hid hdl
        clear Hss H2i I20 I21 I22
        go_wp2_with fail
        refine (sameDir_self _ _ L2 (by have := HL.out; omega) w23 J23.out I23.out).mono ?_
        rintro e w24 ⟨rfl, hb24⟩
        have B24 := belN B23 hb24
        clear I23 J23 hne hne1 hne2 hne3 hne4
        go_wp2_with fail
        refine (drawReadHome_any A n cp bs (by omega) w24 ((Hr.out.below B24).more B24.size)).mono ?_
        rintro e w30 ⟨S2, rfl, hS2, hb30⟩
        have B30 := belN B24 hb30
        obtain ⟨⟨⟨q3, L3⟩, ok3⟩, hho3⟩ : ∃ p, homeP S2 = p := ⟨_, rfl⟩
        have H3i := Lib.hid (fun W hT => readHome_i S2 (by omega) hho3 W hT)
        have H3s := Lib.hid (fun W => readHome_s S2 (by omega) hho3 W)
        have H3b := Lib.hid (fun (h : ok3 = true) v W hT hv => homeBackI S2 hho3 h v W hT hv)
        clear hho3
        go_wp2_with fail
        refine (H3i.out w30 (HT.out.bl B30)).mono ?_
        rintro e w31 ⟨A31, c31, rfl, hi31, hb31⟩
        have B31 := belN B30 hb31
        go_wp2_with fail
        refine (H3s.out w31).mono ?_
        rintro e w32 ⟨A32, c32, rfl, _, hb32⟩
        have B32 := belN B31 hb32
        have I32 := Lib.hid (hi31.next hb32)
        clear hi31
        cases ok3
        · go_wp2
          go_ret
          exact ⟨rfl, B32⟩
        · go_wp2_with fail
          refine (H3b.out (by first | rfl | trivial) _ w32 (HT.out.bl B32) I32.out).mono ?_
          rintro e w33 ⟨rfl, hb33⟩
          go_wp2
          go_ret
          exact ⟨rfl, belN B32 hb33⟩
      case false =>
        have hT0 := showHome_none hc
        have h1 := homeP_empty
        rw [← hT0, hho] at h1
        have h1 : okh = false := h1
        subst h1
        clear hc
        have H2i := Lib.hid (fun W hT => readHome_i _ (by omega) hho W hT)
        clear hho
        have hT1 : showHomeB q ds = ⟨#[]⟩ := hT0
        rw [hT1] at H2i ⊢
        rw [hT1] at Hss
        clear hT0 hT1
        go_wp2_with fail
        refine (H2i.out w21 (HT.out.bl B21)).mono ?_
        rintro e w22 ⟨A22, c22, rfl, hi22, hb22⟩
        have B22 := belN B21 hb22
        have I22 := Lib.hid (I21.out.next hb22)
        go_wp2_with fail
        refine (Hss.out w22 I22.out).mono ?_
        rintro e w23 ⟨rfl, hb23⟩
        have B23 := belN B22 hb23
        have I23 := Lib.hid (I22.out.next hb23)
        have J23 := Lib.hid (hi22.next hb23)
        clear hi22
        clear I20 I21 I22 I23 J23 Hss H2i
        go_wp2_with fail
        refine (drawReadHome_any A n cp bs (by omega) w23 ((Hr.out.below B23).more B23.size)).mono ?_
        rintro e w30 ⟨S2, rfl, hS2, hb30⟩
        have B30 := belN B23 hb30
        obtain ⟨⟨⟨q3, L3⟩, ok3⟩, hho3⟩ : ∃ p, homeP S2 = p := ⟨_, rfl⟩
        have H3i := Lib.hid (fun W hT => readHome_i S2 (by omega) hho3 W hT)
        have H3s := Lib.hid (fun W => readHome_s S2 (by omega) hho3 W)
        have H3b := Lib.hid (fun (h : ok3 = true) v W hT hv => homeBackI S2 hho3 h v W hT hv)
        clear hho3
        go_wp2_with fail
        refine (H3i.out w30 (HT.out.bl B30)).mono ?_
        rintro e w31 ⟨A31, c31, rfl, hi31, hb31⟩
        have B31 := belN B30 hb31
        go_wp2_with fail
        refine (H3s.out w31).mono ?_
        rintro e w32 ⟨A32, c32, rfl, _, hb32⟩
        have B32 := belN B31 hb32
        have I32 := Lib.hid (hi31.next hb32)
        clear hi31
        cases ok3
        · go_wp2
          go_ret
          exact ⟨rfl, B32⟩
        · go_wp2_with fail
          refine (H3b.out (by first | rfl | trivial) _ w32 (HT.out.bl B32) I32.out).mono ?_
          rintro e w33 ⟨rfl, hb33⟩
          go_wp2
          go_ret
          exact ⟨rfl, belN B32 hb33⟩

    case true =>
      go_wp2_with fail
      clear y0 y1 y2 lp
      refine (Hsh.out (by first | rfl | trivial) W13 (HT.out.bl B13)).mono ?_
      rintro e w14 ⟨rfl, hb14⟩
      have B14 := belN B13 hb14
      go_wp2_with fail
      refine (drawShowHome_any A n cp bs (by omega) w14 ((Hr.out.below B14).more B14.size)).mono ?_
      rintro e w20 ⟨q, v, ds, rfl, hdl, hdn, own, hb20⟩
      have B20 := belN B14 hb20
      obtain ⟨A20, c20, rfl, _, _, hr20⟩ := own_vals own
      have I20 : Hid (IsS w20 (.slice A20 ds.length c20) ds) := Lib.hid ⟨A20, c20, rfl, hr20⟩
      have Hdn := Lib.hid hdn
      clear own hr20 hdn
      go_wp2_with fail
      refine (showHome_impl0 q _ ds (fun e he => by have := Hdn.out e he; omega) (by omega) w20 (HT.out.bl B20) I20.out).mono ?_
      rintro e w21 ⟨rfl, hb21⟩
      have B21 := belN B20 hb21
      have I21 := Lib.hid (I20.out.next hb21)
      have hTs := showHome_sz q ds
      have Hss := Lib.hid (fun W h => showHome_spec0 q (.slice A20 ds.length c20) ds (fun e he => by have := Hdn.out e he; omega) (by omega) W h)
      obtain ⟨⟨⟨q2, L2⟩, okh⟩, hho⟩ : ∃ p, homeP (showHomeB q ds) = p := ⟨_, rfl⟩
      cases hc : (inI q 0 1000000 && dirOkB ds)
      case true =>
        rw [Bool.and_eq_true] at hc
        have h1 := homeP_show hc.1 hc.2
        rw [hho] at h1
        injection h1 with h1 h2
        injection h1 with h1 h3
        subst h1 h2 h3
        have hne : (showHomeB q2 L2).size ≠ 0 := by
          intro h0
          have hz : showHomeB q2 L2 = str [] := by
            apply bytes_ext
            rw [str_list]
            exact List.eq_nil_of_length_eq_zero (by rw [Array.length_toList]; exact h0)
          have h1 := homeP_empty
          rw [← hz, hho] at h1
          cases h1
        clear hc
        have H2i := Lib.hid (fun W hT => readHome_i _ (by omega) hho W hT)
        clear hho
        obtain ⟨T2, hT2⟩ : ∃ T, showHomeB q2 L2 = T := ⟨_, rfl⟩
        rw [hT2] at H2i Hss hne ⊢
        clear hT2
        go_wp2_with fail
        refine (H2i.out w21 (HT.out.bl B21)).mono ?_
        rintro e w22 ⟨A22, c22, rfl, hi22, hb22⟩
        have B22 := belN B21 hb22
        have I22 := Lib.hid (I21.out.next hb22)
        go_wp2_with fail
        refine (Hss.out w22 I22.out).mono ?_
        rintro e w23 ⟨rfl, hb23⟩
        have B23 := belN B22 hb23
        have I23 := Lib.hid (I22.out.next hb23)
        have J23 := Lib.hid (hi22.next hb23)
        clear hi22
        have hne1 : T2 ≠ ⟨#[]⟩ := by intro h; rw [h] at hne; exact hne rfl
        have hne2 : ¬ (T2.toList = []) := by
          rw [ByteArray.toList_eq]
          intro h
          exact hne1 (bytes_ext h)
        have hne3 : T2.toList.isEmpty = false := by
          cases hl : T2.toList with
          | nil => exact absurd hl hne2
          | cons _ _ => rfl
        have hne4 : (T2.toList == []) = false := by
          cases hl : T2.toList with
          | nil => exact absurd hl hne2
          | cons _ _ => rfl
        have HL := Lib.hid hdl
        clear Hss H2i I20 I21 I22
        go_wp2_with fail
        refine (sameDir_self _ _ L2 (by have := HL.out; omega) w23 J23.out I23.out).mono ?_
        rintro e w24 ⟨rfl, hb24⟩
        have B24 := belN B23 hb24
        clear I23 J23 hne hne1 hne2 hne3 hne4
        go_wp2_with fail
        refine (drawReadHome_any A n cp bs (by omega) w24 ((Hr.out.below B24).more B24.size)).mono ?_
        rintro e w30 ⟨S2, rfl, hS2, hb30⟩
        have B30 := belN B24 hb30
        obtain ⟨⟨⟨q3, L3⟩, ok3⟩, hho3⟩ : ∃ p, homeP S2 = p := ⟨_, rfl⟩
        have H3i := Lib.hid (fun W hT => readHome_i S2 (by omega) hho3 W hT)
        have H3s := Lib.hid (fun W => readHome_s S2 (by omega) hho3 W)
        have H3b := Lib.hid (fun (h : ok3 = true) v W hT hv => homeBackI S2 hho3 h v W hT hv)
        clear hho3
        go_wp2_with fail
        refine (H3i.out w30 (HT.out.bl B30)).mono ?_
        rintro e w31 ⟨A31, c31, rfl, hi31, hb31⟩
        have B31 := belN B30 hb31
        go_wp2_with fail
        refine (H3s.out w31).mono ?_
        rintro e w32 ⟨A32, c32, rfl, _, hb32⟩
        have B32 := belN B31 hb32
        have I32 := Lib.hid (hi31.next hb32)
        clear hi31
        cases ok3
        · go_wp2
          go_ret
          exact ⟨rfl, B32⟩
        · go_wp2_with fail
          refine (H3b.out (by first | rfl | trivial) _ w32 (HT.out.bl B32) I32.out).mono ?_
          rintro e w33 ⟨rfl, hb33⟩
          go_wp2
          go_ret
          exact ⟨rfl, belN B32 hb33⟩
      case false =>
        have hT0 := showHome_none hc
        have h1 := homeP_empty
        rw [← hT0, hho] at h1
        have h1 : okh = false := h1
        subst h1
        clear hc
        have H2i := Lib.hid (fun W hT => readHome_i _ (by omega) hho W hT)
        clear hho
        have hT1 : showHomeB q ds = ⟨#[]⟩ := hT0
        rw [hT1] at H2i ⊢
        rw [hT1] at Hss
        clear hT0 hT1
        go_wp2_with fail
        refine (H2i.out w21 (HT.out.bl B21)).mono ?_
        rintro e w22 ⟨A22, c22, rfl, hi22, hb22⟩
        have B22 := belN B21 hb22
        have I22 := Lib.hid (I21.out.next hb22)
        go_wp2_with fail
        refine (Hss.out w22 I22.out).mono ?_
        rintro e w23 ⟨rfl, hb23⟩
        have B23 := belN B22 hb23
        have I23 := Lib.hid (I22.out.next hb23)
        have J23 := Lib.hid (hi22.next hb23)
        clear hi22
        clear I20 I21 I22 I23 J23 Hss H2i
        go_wp2_with fail
        refine (drawReadHome_any A n cp bs (by omega) w23 ((Hr.out.below B23).more B23.size)).mono ?_
        rintro e w30 ⟨S2, rfl, hS2, hb30⟩
        have B30 := belN B23 hb30
        obtain ⟨⟨⟨q3, L3⟩, ok3⟩, hho3⟩ : ∃ p, homeP S2 = p := ⟨_, rfl⟩
        have H3i := Lib.hid (fun W hT => readHome_i S2 (by omega) hho3 W hT)
        have H3s := Lib.hid (fun W => readHome_s S2 (by omega) hho3 W)
        have H3b := Lib.hid (fun (h : ok3 = true) v W hT hv => homeBackI S2 hho3 h v W hT hv)
        clear hho3
        go_wp2_with fail
        refine (H3i.out w30 (HT.out.bl B30)).mono ?_
        rintro e w31 ⟨A31, c31, rfl, hi31, hb31⟩
        have B31 := belN B30 hb31
        go_wp2_with fail
        refine (H3s.out w31).mono ?_
        rintro e w32 ⟨A32, c32, rfl, _, hb32⟩
        have B32 := belN B31 hb32
        have I32 := Lib.hid (hi31.next hb32)
        clear hi31
        cases ok3
        · go_wp2
          go_ret
          exact ⟨rfl, B32⟩
        · go_wp2_with fail
          refine (H3b.out (by first | rfl | trivial) _ w32 (HT.out.bl B32) I32.out).mono ?_
          rintro e w33 ⟨rfl, hb33⟩
          go_wp2
          go_ret
          exact ⟨rfl, belN B32 hb33⟩



set_option maxRecDepth 100000 in
theorem fnOps_contract (H : Type) (enc : TypeId × Value → H) (W : World) (base : Nat) (args : Array Value) (ds gs : List (DataW H)) (before : List MemPlace)
    (hval : ∀ (j : Nat) t v, Tryd.f3.params[j]? = some t → args[j]? = some v → Value.okWide Tryd.prog W .any base t v)
    (hW : DataW.Whole enc Tryd.prog Tryd.f3.params.toList Rows.fnOpsSpec.vars false W args.toList ds gs before) (hL : laidMetH Tryd.prog Rows.fnOpsRow.laid W) :
    Calls Tryd.prog 3 args W fun e W' => ∃ v, e = .returned v ∧ Rows.fnOpsSpec.post enc Tryd.prog Tryd.f3 false true false false W args v W' := by
  have hW' := hW
  obtain ⟨p, q, hA0, hV, rfl, hfz, hnd⟩ := hW
  have hA : DataW.TrodAll enc Tryd.prog W 0 (fun _ => true) true Tryd.f3.params.toList args.toList ds p := hA0
  rw [Tryd.params3] at hA hval
  have hT := tab_of hL
  obtain ⟨_, _, _, g1, _, _, rfl, _⟩ := trodVars_one hV
  obtain ⟨v0, d0, rfl, rfl, h0⟩ := trodAll_one hA
  obtain ⟨Ac, nc, cpc, bsc, rfl, hnc, hIc⟩ := open_bytes_is (hval 0 22 v0 rfl rfl) h0
  clear hA0
  refine (law_fnOps Ac nc cpc bsc W hT hIc).mono fun e W' ⟨he, hw⟩ => ?_
  subst he
  exact ⟨_, rfl, law_postD Tryd.laidOut (by kernel_rfl) rfl Tryd.underlying4 (Tryd.varsOk hT) rfl hW' hw⟩

theorem fnOps_laid_met (os : Os) : laidMet Tryd.prog Rows.fnOpsRow.laid ((laidWorld os #[.slice none 0 0]).forCall (fun _ _ => 0) ⟨#[], #[.slice none 0 0], []⟩).memory :=
  laidMet_of_run' 8 (by kernel_rfl) (by kernel_rfl)
theorem fnOps_reads (os : Os) {H : Type} (enc : TypeId × Value → H) : DataW.whole enc Tryd.prog ((laidWorld os #[.slice none 0 0]).forCall (fun _ _ => 0) ⟨#[], #[.slice none 0 0], []⟩).memory Tryd.f3.params.toList Rows.fnOpsSpec.vars false (#[.slice none 0 0] : Array Value).toList 8 = some ([.nil], [Rows.laid_loop_example_g00773_impl_knownParts], [] ++ MemPlace.row ⟨0, 0, none⟩ 54) := by kernel_rfl

set_option maxRecDepth 100000 in
theorem fnOps_lifted (os : Os) (started : os.Started) (H : Type) (enc : TypeId × Value → H) (F : Stop.Interp) :
    ReturnsInHanded {} Tryd.checked os 3 .any ((OpenSpec.ofChange Rows.fnOpsSpec).preRow enc Tryd.prog Tryd.f3 Rows.fnOpsRow.domain false Rows.fnOpsRow.laid) (((OpenSpec.ofChange Rows.fnOpsSpec).at F).post enc Tryd.prog Tryd.f3 false true false false) := by
  refine returnsInHanded_of_row (C := Tryd.checked) (s := OpenSpec.ofChange Rows.fnOpsSpec) Tryd.own started (by as_aux_lemma => kernel_rfl) Tryd.func3
    (witness_row_at (enc := enc) (C := Tryd.checked) false (laidWorld os #[.slice none 0 0]) #[.slice none 0 0] rfl (by as_aux_lemma => kernel_rfl) (by as_aux_lemma => kernel_rfl) (by as_aux_lemma => kernel_rfl)
      (OpenSpec.preRow_of_cond 8 (fnOps_reads os enc) (by as_aux_lemma => kernel_rfl) (fun k hk => by cases hk) (by as_aux_lemma => kernel_rfl) (fnOps_laid_met os))) ?_
  intro W base args ds gs before hval hW _ _ _ hL _ _
  exact fnOps_contract H enc W base args ds gs before hval hW hL

set_option maxHeartbeats 4000000 in
theorem fnOps_facts : joinedFacts Tryd.pinned.checked.prog 3 Tryd.f3 (OpenSpec.ofChange Rows.fnOpsSpec).bare Rows.fnOpsRow = true := by
  simp only [joinedFacts, Bool.and_eq_true]
  repeat' (refine And.intro ?_ ?_)
  all_goals (as_aux_lemma => kernel_rfl)
theorem fnOps_said : Rows.FnOpsSaid :=
  OpenClaim.holds_of_cond 3 Tryd.f3 rfl rfl rfl rfl rfl rfl rfl ⟨rfl, rfl, rfl, rfl, rfl⟩ rfl rfl rfl rfl rfl (by as_aux_lemma => kernel_rfl) Tryd.func3 fnOps_facts
    (of_decide_eq_true (by as_aux_lemma => kernel_rfl)) (by unfold Func.isWrapper; rw [if_neg (of_decide_eq_false (by as_aux_lemma => kernel_rfl))]; exact ⟨rfl, rfl⟩)
    (fun os started H enc _ F => by rw [OpenClaim.pre_eq_preRow]; exact fnOps_lifted os started H enc F)

theorem fnOps_plain (f : FuncId) (fn : Func) (hf : Tryd.pinned.checked.prog.funcNamed "loop.example/g00773/laws.FnOps" = some f) (hfn : Tryd.pinned.checked.prog.funcs[f]? = some fn) :
    false = Tryd.pinned.checked.prog.looks [] ∧ ∀ (j : Nat) t, fn.params[j]? = some t → Tryd.pinned.checked.prog.wantsStandIn t = false := by
  obtain rfl : f = 3 := Option.some.inj ((show Tryd.prog.funcNamed "loop.example/g00773/laws.FnOps" = some 3 by kernel_rfl).symm.trans hf) |>.symm
  obtain rfl : fn = Tryd.f3 := (Option.some.inj (Tryd.func3.symm.trans hfn)).symm
  refine ⟨by kernel_rfl, fun j t ht => ?_⟩
  rw [Tryd.params3] at ht
  obtain rfl : t = 22 := by simpa using Array.mem_of_getElem? ht
  exact (show Tryd.prog.wantsStandIn 22 = false by kernel_rfl)

theorem fnOps_card : Rows.FnOpsCardSaid :=
  Claim7.holds_tied_plain_at .later [] _ _ _ _ fnOps_said (fun _ h => by cases h) (by as_aux_lemma => kernel_rfl) (fun _ h => by cases h) fnOps_row_tie rfl ⟨rfl, rfl⟩ (by as_aux_lemma => kernel_rfl) rfl fnOps_plain (by as_aux_lemma => kernel_rfl)

end Go.Proofs.YtpnmmigoencbdaaDoor
