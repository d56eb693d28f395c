/- The law of rings: the walk. -/
import Derived.Test.YtgbgfgkgkbnflaaRgDrw
import Derived.Test.YtgbgfgkgkbnflaaRgL
namespace Go.Proofs.Ytgbgfgkgkbnflaa
open Go Go.RowKit

set_option maxHeartbeats 400000 in
theorem big_any (A : Option Addr) (n cp : Nat) (w : World) :
    Calls Try.prog 4 #[.slice A n cp] w fun e w' => e = .returned (.bool (decide (1048576 < n))) ∧ Below w.heap.size w w' := by
  by_cases h : 1048576 < n
  · have h1 : (n : Int) > 1048576 := by omega
    have hd : decide (1048576 < n) = true := by simpa using h
    have Hd := Lib.hid hd
    go_enter Try.func4, Try.ntmps4
    go_wp2
    go_ret
    exact ⟨by first | rfl | (rw [Hd.out]; rfl), bel0 w⟩
  · have h1 : ¬ ((n : Int) > 1048576) := by omega
    have hd : decide (1048576 < n) = false := by simpa using h
    have Hd := Lib.hid hd
    go_enter Try.func4, Try.ntmps4
    go_wp2
    go_ret
    exact ⟨by first | rfl | (rw [Hd.out]; rfl), bel0 w⟩

def newT : ByteArray := ⟨#[110, 101, 119]⟩

theorem ring_facts {L : List ByteArray} (hg : ∀ x ∈ L, ringT x) : ∃ M, ringL L = M ∧ (∀ (i : Nat) (h : i + 1 < M.length), M[i + 1].1 = M[i].1 + 1) ∧ (∀ (i : Nat) (h : i < M.length), -10 ≤ M[i].1 ∧ M[i].1 ≤ 999999) ∧
    (∀ (h : 0 < M.length), M[M.length - 1].1 = topN L 6) ∧ M.length ≤ 6 ∧ (L.length ≠ 6 → M.length = 0) ∧
    Hid (L.length = 6 → putB L (topN L 6 + 1) newT = true ∧ (ringL (putL L (topN L 6 + 1) newT)).length = min (M.length + 1) 6 ∧
      ∀ (k : Nat) (hk : k < (ringL (putL L (topN L 6 + 1) newT)).length), k + 1 = (ringL (putL L (topN L 6 + 1) newT)).length → (ringL (putL L (topN L 6 + 1) newT))[k] = (topN L 6 + 1, newT)) :=
  ⟨ringL L, rfl, ringL_next L, fun i h => ringL_bd hg i h, fun h => (ringL_last L h).1, ringL_len L, fun h => by rw [ringL_no h]; rfl, Lib.hid fun h => ring_more h (show newT.size ≤ 80 by decide) hg⟩

set_option maxRecDepth 100000 in
set_option maxHeartbeats 16000000 in
theorem law_fnRing (A : Option Addr) (n cp : Nat) (bs : List UInt8) (w : World) (hr : Reads w w.heap.size 1 A n (B8 bs)) :
    Calls Try.prog 3 #[.slice A n cp] w fun e w' => e = .returned (.bool true) ∧ Below w.heap.size w w' := by
  have Hc := Lib.hid (fun W (hb : Below w.heap.size w W) => (hr.below hb).more hb.size)
  clear hr
  by_cases hbig : 1048576 < n
  · have Hd := Lib.hid (show decide (1048576 < n) = true by simpa using hbig)
    go_enter Try.func3, Try.ntmps3
    go_wp2_with fail
    refine (big_any A n cp w).mono ?_
    rintro e w1 ⟨rfl, hb1⟩
    rw [Hd.out]
    go_wp2
    go_ret
    exact ⟨rfl, hb1⟩
  have Hd := Lib.hid (show decide (1048576 < n) = false by simpa using hbig)
  go_enter Try.func3, Try.ntmps3
  go_wp2_with fail
  refine (big_any A n cp w).mono ?_
  rintro e w1 ⟨rfl, hb1⟩
  rw [Hd.out]
  clear Hd
  go_wp2_with fail
  refine (drawRingPut_any A n cp bs (by omega) w1 (Hc.out _ hb1)).mono ?_
  rintro e w2 ⟨v, L, q, t, rfl, ht, hL, hg, own, hb2⟩
  have B2 := belN hb1 hb2
  obtain ⟨A2, c2, rfl, _, _, hr2⟩ := own_vals own
  have Hp := Lib.hid (fun W (hb : Below w2.heap.size w2 W) => (hr2.below hb).more hb.size)
  have hLs : ∀ s ∈ L, s.size ≤ 1000000000 := fun s h => by have := (hg s h).1; omega
  clear hb1 hb2 own hr2
  obtain ⟨W3, hW3⟩ : ∃ W, w2.alloc (.cells #[.int .i64 q, .string t] 26) = W := ⟨_, rfl⟩
  have O3 : Blk W3 w2.heap.size 26 #[.int .i64 q, .string t] := by rw [← hW3]; exact Blk.new' _ _ _ _ rfl
  have C3 : Below w2.heap.size w2 W3 := by rw [← hW3]; exact belA (bel0 _) _
  go_upto_region 4 with fail
  try rw [hW3]
  clear hW3
  have x0 := O3.get (x := .int .i64 q) 0 rfl
  have x1 := O3.get (x := .string t) 1 rfl
  have l3 := O3.lt
  go_wp2_with fail
  clear x0 x1 l3
  refine (ringPut_impl A2 L.length c2 L (by omega) rfl q t (by omega) W3 (Hp.out _ C3)).mono ?_
  rintro e w4 ⟨D4, d4, rfl, _, hb4⟩
  have C4 := belN C3 hb4
  have O4 := O3.below hb4 O3.lt
  clear C3 O3 hb4
  have x0 := O4.get (x := .int .i64 q) 0 rfl
  have x1 := O4.get (x := .string t) 1 rfl
  have l3 := O4.lt
  go_wp2_with fail
  clear x0 x1 l3
  refine (ringPut_spec A2 L.length c2 L (by omega) rfl q t (by omega) w4 (Hp.out _ C4)).mono ?_
  rintro e w5 ⟨D5, d5, rfl, _, hb5⟩
  have C5 := belN C4 hb5
  clear C4 O4 hb5
  have hm0 : L.length ≠ 6 → (putL L q t).length = 0 := fun h => by unfold putL; rw [if_neg h]; rfl
  obtain ⟨m, hm⟩ : ∃ m, (putL L q t).length = m := ⟨_, rfl⟩
  obtain ⟨b, hb⟩ : ∃ b, putB L q t = b := ⟨_, rfl⟩
  rw [hm] at hm0 ⊢
  rw [hb]
  clear hm hb
  go_wp2_with fail
  refine (drawReadRec_any A n cp bs (by omega) w5 (Hc.out _ (belN B2 C5))).mono ?_
  rintro e w6 ⟨s, rfl, hs, hb6⟩
  have C6 := belN C5 hb6
  clear C5 hb6 Hc
  go_wp2_with fail
  refine (readRec_impl s (by omega) w6).mono ?_
  rintro e w7 ⟨rfl, hb7⟩
  have C7 := belN C6 hb7
  clear C6 hb7
  obtain ⟨Q, T, f, hrec⟩ : ∃ Q T f, recP s = (Q, T, f) := ⟨_, _, _, rfl⟩
  rw [hrec]
  simp only
  obtain ⟨W8, hW8⟩ : ∃ W, w7.alloc (.cells #[.int .i64 Q, .string T] 26) = W := ⟨_, rfl⟩
  have O8 : Blk W8 w7.heap.size 26 #[.int .i64 Q, .string T] := by rw [← hW8]; exact Blk.new' _ _ _ _ rfl
  have C8 : Below w2.heap.size w2 W8 := by rw [← hW8]; exact belA C7 _
  go_upto_region 8 with fail
  try rw [hW8]
  clear hW8 C7
  go_wp2_with fail
  refine (readRec_spec s (by omega) W8).mono ?_
  rintro e w9 ⟨rfl, hb9⟩
  have C9 := belN C8 hb9
  have O9 := O8.below hb9 O8.lt
  clear C8 hb9 O8
  rw [hrec]
  simp only
  obtain ⟨W10, hW10⟩ : ∃ W, w9.alloc (.cells #[.int .i64 Q, .string T] 26) = W := ⟨_, rfl⟩
  have C10 : Below w2.heap.size w2 W10 := by rw [← hW10]; exact belA C9 _
  have O10 : Blk W10 w7.heap.size 26 #[.int .i64 Q, .string T] := by rw [← hW10]; exact O9.alloc _
  go_upto_region 9 with fail
  try rw [hW10]
  clear hW10 C9 O9
  cases f
  case' true =>
    obtain ⟨hok, hss⟩ := rec_inv hrec
    have hTs := (okR_bd hok).2.2
    have x0 := O10.get (x := .int .i64 Q) 0 rfl
    have x1 := O10.get (x := .string T) 1 rfl
    have l3 := O10.lt
    go_wp2_with fail
    refine (showRec_impl Q T W10 (by omega)).mono ?_
    rintro e W11 ⟨rfl, hb11⟩
    rw [← hss]
    have C11 := belN C10 hb11
    clear C10 O10 x0 x1 l3
    go_wp2_with fail
    have C10 := C11
    clear C11
  case' false =>
    go_wp2_with fail
  case true =>
    refine (ringRead_impl A2 L.length c2 L (by omega) hLs _ (Hp.out _ C10)).mono ?_
    rintro e w12 ⟨vl, rfl, ownl, hb12⟩
    have C12 := belN C10 hb12
    obtain ⟨Al, cl, rfl, _, _, hrl⟩ := own_vals ownl
    clear ownl hb12
    obtain ⟨M, hM, hMn, hMb, hMl, hM6, hM0, Hmore⟩ := ring_facts hg
    have HM := Lib.hid hM
    rw [hM] at hrl
    rw [hM]
    clear hM
    go_wp2
    go_loopw [15] (fun i wr => ∃ k : Nat, 1 ≤ k ∧ k ≤ 7 ∧ i = .int .i64 k ∧ Below w12.heap.size w12 wr) (fun i _ => 7 - (intOf i).toNat)
    case atStart => exact ⟨1, by omega, by omega, rfl, bel0 _⟩
    case round =>
      obtain ⟨k, hk1, hk7, rfl, hbel⟩ := hrel
      by_cases hlt : k < M.length
      · obtain ⟨j, hj⟩ : ∃ j, k = j + 1 := ⟨k - 1, by omega⟩
        obtain ⟨hk, b1, o1, hA1, _, y0, _⟩ := reads_rec ((hrl.below hbel).more hbel.size) hlt
        obtain ⟨hkp, b2, o2, hA2, _, z0, _⟩ := reads_rec ((hrl.below hbel).more hbel.size) (show j < M.length by omega)
        subst hA1
        simp only [Option.some.injEq, Addr.mk.injEq, and_true] at hA2
        obtain ⟨rfl, rfl⟩ := hA2
        have hn1 : M[k].1 = M[j].1 + 1 := by subst hj; exact hMn j hlt
        have hab := hMb j (by omega)
        obtain ⟨a, ha⟩ : ∃ a, M[j].1 = a := ⟨_, rfl⟩
        rw [ha] at z0 hn1 hab
        rw [hn1] at y0
        have wa : IntKind.i64.wrap (a + 1) = a + 1 := by rw [IntKind.wrap_i64]; omega
        have wj : IntKind.i64.wrap ((k : Int) - 1) = (j : Int) := by rw [IntKind.wrap_i64]; omega
        have q0 : (0 : Int) ≤ (k : Int) := by omega
        have q1 : (k : Int) < (M.length : Int) := by omega
        have q2 : (0 : Int) ≤ (j : Int) := by omega
        have q3 : (j : Int) < (M.length : Int) := by omega
        clear hMn hMb hMl hM0 ha hn1 hj
        go_wp2_with fail
        go_still (by kernel_rfl)
        change Exit.then _ _ Exit.normal _ wr.drew
        go_wp2
        first
          | exact ⟨⟨k + 1, by omega, by omega, by go_num, hbel.drew⟩, by simp [intOf]; omega⟩
          | (go_roundw; case rel => exact ⟨k + 1, by omega, by omega, by go_num, hbel.drew⟩; case measure => (simp [intOf]; omega))
      · have Cr := belN C12 hbel
        by_cases h6 : L.length = 6
        · obtain ⟨N, hN⟩ : ∃ N, L.length = N := ⟨_, rfl⟩
          rw [hN] at h6 ⊢
          subst h6
          have q9 : ¬ ((k : Int) < (M.length : Int)) := by omega
          by_cases h0 : M.length = 0
          · rw [h0] at q9 hlt ⊢
            go_wp2_with fail
            refine (ringRead_spec A2 6 c2 L (by omega) hLs _ (hN ▸ Hp.out _ Cr)).mono ?_
            rintro e w13 ⟨vs, rfl, owns, hb13⟩
            rw [HM.out] at owns
            obtain ⟨As, cs, rfl, _, _, _⟩ := own_vals owns
            go_wp2
            go_ret
            exact ⟨rfl, belN B2 (belN Cr hb13)⟩
          · obtain ⟨p, hp⟩ : ∃ p, M.length = p + 1 := ⟨M.length - 1, by omega⟩
            obtain ⟨T, hT⟩ : ∃ T, topN L 6 = T := ⟨_, rfl⟩
            obtain ⟨hk, b1, o1, rfl, _, y0, _⟩ := reads_rec ((hrl.below hbel).more hbel.size) (show p < M.length by omega)
            have hTp : M[p].1 = T := by
              have h1 := hMl (by omega)
              have h2 : M[M.length - 1]'(by omega) = M[p] := by congr 1; omega
              rw [h2, hT] at h1
              exact h1
            have hTb := hMb p (by omega)
            rw [hTp] at y0 hTb
            obtain ⟨P, hP⟩ : ∃ P, M.length = P := ⟨_, rfl⟩
            have Hmore2 := Hmore.out (by omega)
            rw [hT, hP] at Hmore2
            obtain ⟨hput, hlen, hlast⟩ := Hmore2
            rw [hP] at hp h0 hM6 q9 hlt ⊢
            have wP : IntKind.i64.wrap ((P : Int) - 1) = (p : Int) := by rw [IntKind.wrap_i64]; omega
            have wT : IntKind.i64.wrap (T + 1) = T + 1 := by rw [IntKind.wrap_i64]; omega
            have q0 : (0 : Int) ≤ (p : Int) := by omega
            have q1 : (p : Int) < (P : Int) := by omega
            have P0 : ((P : Int) == 0) = false := by simp; omega
            obtain ⟨W14, hW14⟩ : ∃ W, wr.alloc (.cells #[.int .i64 (T + 1), .string newT] 26) = W := ⟨_, rfl⟩
            have O14 : Blk W14 wr.heap.size 26 #[.int .i64 (T + 1), .string newT] := by rw [← hW14]; exact Blk.new' _ _ _ _ rfl
            have C14 : Below w2.heap.size w2 W14 := by rw [← hW14]; exact belA Cr _
            have Hlen := Lib.hid hlen
            have Hlast := Lib.hid hlast
            have Hlp := Lib.hid hp
            have HP := Lib.hid hP
            clear hlen hlast hMn hMb hMl hM0 hp hP hTp hT
            unfold newT at hW14
            go_upto_region 22 with fail
            try rw [hW14]
            clear hW14
            have x0 := O14.get (x := .int .i64 (T + 1)) 0 rfl
            have x1 := O14.get (x := .string newT) 1 rfl
            have lO := O14.lt
            go_wp2_with fail
            clear x0 x1 lO y0 q0 q1 wP wT
            refine (ringPut_impl A2 6 c2 L (by omega) hN (T + 1) newT (by decide) W14 (hN ▸ Hp.out _ C14)).mono ?_
            intro e w15 hpp
            obtain ⟨A5, c5, rfl, own5, hb15⟩ := put6 hpp hN
            have C15 := belN C14 hb15
            have O15 := O14.below hb15 O14.lt
            obtain ⟨_, _, h5, _, _, hr5⟩ := own_vals own5
            simp only [Value.slice.injEq, true_and] at h5
            obtain ⟨rfl, rfl⟩ := h5
            clear hpp own5 hb15 O14 C14
            rw [hput]
            obtain ⟨L', hL'⟩ : ∃ X, putL L (T + 1) newT = X := ⟨_, rfl⟩
            have hl6 : L'.length = 6 := by rw [← hL']; exact putL_len L _ _ hN
            have hgs : ∀ s ∈ L', s.size ≤ 1000000000 := by
              intro s hs
              rw [← hL'] at hs
              unfold putL at hs
              rw [if_pos hN] at hs
              split at hs
              · rcases List.mem_or_eq_of_mem_set hs with hs | rfl
                · exact hLs s hs
                · have := show_sz (T + 1) newT
                  have : newT.size = 3 := by decide
                  omega
              · exact hLs s hs
            rw [hL'] at hr5
            have Hlen' := Lib.hid (hL' ▸ Hlen.out)
            have Hlast' := Lib.hid (hL' ▸ Hlast.out)
            clear Hlen Hlast hL'
            go_wp2_with fail
            refine (ringRead_impl _ 6 _ L' (by omega) hgs w15 hr5).mono ?_
            rintro e w16 ⟨vm, rfl, ownm, hb16⟩
            have C16 := belN C15 hb16
            have O16 := O15.below hb16 O15.lt
            clear hb16 O15 C15 hr5
            obtain ⟨Am, cm, rfl, _, _, hrm⟩ := own_vals ownm
            clear ownm
            obtain ⟨M', hM'⟩ : ∃ X, ringL L' = X := ⟨_, rfl⟩
            rw [hM'] at Hlen' Hlast' hrm
            rw [hM']
            have hlenm := Hlen'.out
            obtain ⟨p', hp'⟩ : ∃ p', M'.length = p' + 1 := ⟨M'.length - 1, by have := Hlen'.out; omega⟩
            obtain ⟨hk', b5, o5, rfl, hb5, z0, z1⟩ := reads_rec hrm (show p' < M'.length by omega)
            have hlm := Hlast'.out p' hk' hp'.symm
            rw [hlm] at z0 z1
            obtain ⟨K, hK⟩ : ∃ K, M'.length = K := ⟨_, rfl⟩
            rw [hK] at hlenm hp' ⊢
            have x0 := O16.get (x := .int .i64 (T + 1)) 0 rfl
            have x1 := O16.get (x := .string newT) 1 rfl
            have wK : IntKind.i64.wrap ((K : Int) - 1) = (p' : Int) := by rw [IntKind.wrap_i64]; omega
            have wP : IntKind.i64.wrap ((P : Int) + 1) = (P : Int) + 1 := by rw [IntKind.wrap_i64]; omega
            have q0 : (0 : Int) ≤ (p' : Int) := by omega
            have q1 : (p' : Int) < (K : Int) := by omega
            have k1 : (K : Int) ≥ 1 := by omega
            have k6 : (P : Int) ≤ 6 := by omega
            clear hlm hK Hlen' Hlast' hrm hTb h0
            by_cases hP6 : P = 6
            · have e1 : ((K : Int) == (P : Int) + 1) = false := by simp; omega
              have e2 : ((K : Int) == 6) = true := by simp; omega
              clear hlenm hp' hP6
              go_wp2_with fail
              go_region_held3 (fun w' => w'.cell? ⟨b5, o5 + p' * 2, none⟩ = some (.int .i64 (T + 1)) ∧ w'.cell? ⟨b5, o5 + p' * 2 + 1, none⟩ = some (.string newT) ∧ w'.cell? ⟨wr.heap.size, 0, none⟩ = some (.int .i64 (T + 1)) ∧ w'.cell? ⟨wr.heap.size, 1, none⟩ = some (.string newT))
                (first | exact ⟨z0, z1, x0, x1⟩ | (refine ⟨keep1 hb20 ?_, keep1 hb20 ?_, keep1 hb20 ?_, keep1 hb20 ?_⟩ <;> go_keep))
                (first | (go_at_call 13; refine (ringRead_spec A2 6 c2 L (by omega) hLs _ (by first | exact hN ▸ Hp.out _ C16 | exact hN ▸ Hp.out _ C16.drew)).mono ?_; rintro e w20 ⟨vs, rfl, owns, hb20⟩; rw [HM.out, HP.out] at owns; obtain ⟨As, cs, rfl, _, _, _⟩ := own_vals owns))
              go_wp2
              go_ret
              exact ⟨rfl, belN B2 (by first | exact belN C16.drew hb20 | exact belN (below_drewN C16 _) hb20 | exact belN (below_drewN C16 _).drew hb20)⟩
            · have e1 : ((K : Int) == (P : Int) + 1) = true := by simp; omega
              clear hlenm hp' hP6
              go_wp2_with fail
              refine wp_region_held_drew (S := fun w' => w'.cell? ⟨b5, o5 + p' * 2, none⟩ = some (.int .i64 (T + 1)) ∧ w'.cell? ⟨b5, o5 + p' * 2 + 1, none⟩ = some (.string newT) ∧ w'.cell? ⟨wr.heap.size, 0, none⟩ = some (.int .i64 (T + 1)) ∧ w'.cell? ⟨wr.heap.size, 1, none⟩ = some (.string newT)) (by kernel_rfl) ⟨z0, z1, x0, x1⟩ (fun hHeld => ?_)
              refine wpAnyH_take (i := 0) (oi := ?oi1) (v := ?v1) ?hi1 ?hs1 ?hf1 ?hr1 ?hQ1 ?hy1 ?hS1 ?hrest1
              case hi1 => (conv => lhs; simp only [List.getElem?_toArray, List.getElem?_cons_zero]); try exact rfl
              case hs1 => kernel_rfl
              case hf1 => kernel_rfl
              case hr1 => kernel_rfl
              case hQ1 => exact fun _ _ _ h => h
              case hS1 => assumption
              case hy1 => refine Or.inl ⟨by rfl, ?_⟩; intro w hSw; (try dsimp only at hSw); go_simp; (try with_reducible rfl)
              simp only [Act.put, List.setIfInBounds_toArray, List.set_cons_zero, List.set_cons_succ]
              refine wpAnyH_take (i := 1) (oi := ?oi2) (v := ?v2) ?hi2 ?hs2 ?hf2 ?hr2 ?hQ2 ?hy2 ?hS2 ?hrest2
              case hi2 => (conv => lhs; simp only [List.getElem?_toArray, List.getElem?_cons_zero, List.getElem?_cons_succ]); try exact rfl
              case hs2 => kernel_rfl
              case hf2 => kernel_rfl
              case hr2 => kernel_rfl
              case hQ2 => exact fun _ _ _ h => h
              case hS2 => assumption
              case hy2 => refine Or.inl ⟨by rfl, ?_⟩; intro w hSw; (try dsimp only at hSw); go_simp; (try with_reducible rfl)
              simp only [Act.put, List.setIfInBounds_toArray, List.set_cons_zero, List.set_cons_succ]
              refine wpAnyH_take (i := 2) (oi := ?oi3) (v := ?v3) ?hi3 ?hs3 ?hf3 ?hr3 ?hQ3 ?hy3 ?hS3 ?hrest3
              case hi3 => (conv => lhs; simp only [List.getElem?_toArray, List.getElem?_cons_zero, List.getElem?_cons_succ]); try exact rfl
              case hs3 => kernel_rfl
              case hf3 => kernel_rfl
              case hr3 => kernel_rfl
              case hQ3 => exact fun _ _ _ h => h
              case hS3 => assumption
              case hy3 => refine Or.inl ⟨by rfl, ?_⟩; intro w hSw; (try dsimp only at hSw); go_simp; (try with_reducible rfl)
              simp only [Act.put, List.setIfInBounds_toArray, List.set_cons_zero, List.set_cons_succ]
              refine wpAnyH_take (i := 3) (oi := ?oi4) (v := ?v4) ?hi4 ?hs4 ?hf4 ?hr4 ?hQ4 ?hy4 ?hS4 ?hrest4
              case hi4 => (conv => lhs; simp only [List.getElem?_toArray, List.getElem?_cons_zero, List.getElem?_cons_succ]); try exact rfl
              case hs4 => kernel_rfl
              case hf4 => kernel_rfl
              case hr4 => kernel_rfl
              case hQ4 => exact fun _ _ _ h => h
              case hS4 => assumption
              case hy4 => refine Or.inl ⟨by rfl, ?_⟩; intro w hSw; (try dsimp only at hSw); go_simp; (try with_reducible rfl)
              simp only [Act.put, List.setIfInBounds_toArray, List.set_cons_zero, List.set_cons_succ]
              refine wpAnyH_take (i := 4) (oi := ?oi5) (v := ?v5) ?hi5 ?hs5 ?hf5 ?hr5 ?hQ5 ?hy5 ?hS5 ?hrest5
              case hi5 => (conv => lhs; simp only [List.getElem?_toArray, List.getElem?_cons_zero, List.getElem?_cons_succ]); try exact rfl
              case hs5 => kernel_rfl
              case hf5 => kernel_rfl
              case hr5 => kernel_rfl
              case hQ5 => exact fun _ _ _ h => h
              case hS5 => assumption
              case hy5 => refine Or.inl ⟨by rfl, ?_⟩; intro w hSw; (try dsimp only at hSw); go_simp; (try with_reducible rfl)
              simp only [Act.put, List.setIfInBounds_toArray, List.set_cons_zero, List.set_cons_succ]
              refine wpAnyH_take (i := 5) (oi := ?oi6) (v := ?v6) ?hi6 ?hs6 ?hf6 ?hr6 ?hQ6 ?hy6 ?hS6 ?hrest6
              case hi6 => (conv => lhs; simp only [List.getElem?_toArray, List.getElem?_cons_zero, List.getElem?_cons_succ]); try exact rfl
              case hs6 => kernel_rfl
              case hf6 => kernel_rfl
              case hr6 => kernel_rfl
              case hQ6 => exact fun _ _ _ h => h
              case hS6 => assumption
              case hy6 => refine Or.inl ⟨by rfl, ?_⟩; intro w hSw; (try dsimp only at hSw); go_simp; (try with_reducible rfl)
              simp only [Act.put, List.setIfInBounds_toArray, List.set_cons_zero, List.set_cons_succ]
              refine wpAnyH_take (i := 6) (oi := ?oi7) (v := ?v7) ?hi7 ?hs7 ?hf7 ?hr7 ?hQ7 ?hy7 ?hS7 ?hrest7
              case hi7 => (conv => lhs; simp only [List.getElem?_toArray, List.getElem?_cons_zero, List.getElem?_cons_succ]); try exact rfl
              case hs7 => kernel_rfl
              case hf7 => kernel_rfl
              case hr7 => kernel_rfl
              case hQ7 => exact fun _ _ _ h => h
              case hS7 => assumption
              case hy7 => refine Or.inl ⟨by rfl, ?_⟩; intro w hSw; (try dsimp only at hSw); go_simp; (try with_reducible rfl)
              simp only [Act.put, List.setIfInBounds_toArray, List.set_cons_zero, List.set_cons_succ]
              refine wpAnyH_ready (rs := [7]) (by kernel_rfl) (by simp) ?_
              refine AllReadyH.cons (o := ?oi8) ?hi8 (fun K hK => ?_) AllReadyH.nil
              case hi8 => (conv => lhs; simp only [List.getElem?_toArray, List.getElem?_cons_zero, List.getElem?_cons_succ]); try exact rfl
              go_simp
              go_at_call 13
              refine (ringRead_spec A2 6 c2 L (by omega) hLs _ (hN ▸ Hp.out _ C16.drew)).mono ?_
              rintro e w20 ⟨vs, rfl, owns, hb20⟩
              rw [HM.out, HP.out] at owns
              obtain ⟨As, cs, rfl, _, _, _⟩ := own_vals owns
              refine hK.out _ _ ⟨keep1 hb20 z0 (Nat.le_refl _), keep1 hb20 z1 (Nat.le_refl _), keep1 hb20 x0 (Nat.le_refl _), keep1 hb20 x1 (Nat.le_refl _)⟩ (fun hHeld8 => ?_)
              clear hK K
              try simp only [Act.put, List.setIfInBounds_toArray, List.set_cons_zero, List.set_cons_succ]
              refine wpAnyH_take (i := 8) (oi := ?oi9) (v := ?v9) ?hi9 ?hs9 ?hf9 ?hr9 ?hQ9 ?hy9 ?hS9 ?hrest9
              case hi9 => (conv => lhs; simp only [List.getElem?_toArray, List.getElem?_cons_zero, List.getElem?_cons_succ]); try exact rfl
              case hs9 => kernel_rfl
              case hf9 => kernel_rfl
              case hr9 => kernel_rfl
              case hQ9 => exact fun _ _ _ h => h
              case hS9 => assumption
              case hy9 => refine Or.inl ⟨by rfl, ?_⟩; intro w hSw; (try dsimp only at hSw); go_simp; (try with_reducible rfl)
              simp only [Act.put, List.setIfInBounds_toArray, List.set_cons_zero, List.set_cons_succ]
              refine wpAnyH_take (i := 9) (oi := ?oi10) (v := ?v10) ?hi10 ?hs10 ?hf10 ?hr10 ?hQ10 ?hy10 ?hS10 ?hrest10
              case hi10 => (conv => lhs; simp only [List.getElem?_toArray, List.getElem?_cons_zero, List.getElem?_cons_succ]); try exact rfl
              case hs10 => kernel_rfl
              case hf10 => kernel_rfl
              case hr10 => kernel_rfl
              case hQ10 => exact fun _ _ _ h => h
              case hS10 => assumption
              case hy10 => refine Or.inl ⟨by rfl, ?_⟩; intro w hSw; (try dsimp only at hSw); go_simp; (try with_reducible rfl)
              simp only [Act.put, List.setIfInBounds_toArray, List.set_cons_zero, List.set_cons_succ]
              refine wpAnyH_take (i := 10) (oi := ?oi11) (v := ?v11) ?hi11 ?hs11 ?hf11 ?hr11 ?hQ11 ?hy11 ?hS11 ?hrest11
              case hi11 => (conv => lhs; simp only [List.getElem?_toArray, List.getElem?_cons_zero, List.getElem?_cons_succ]); try exact rfl
              case hs11 => kernel_rfl
              case hf11 => kernel_rfl
              case hr11 => kernel_rfl
              case hQ11 => exact fun _ _ _ h => h
              case hS11 => assumption
              case hy11 => refine Or.inl ⟨by rfl, ?_⟩; intro w hSw; (try dsimp only at hSw); go_simp; (try with_reducible rfl)
              simp only [Act.put, List.setIfInBounds_toArray, List.set_cons_zero, List.set_cons_succ]
              refine wpAnyH_take (i := 11) (oi := ?oi12) (v := ?v12) ?hi12 ?hs12 ?hf12 ?hr12 ?hQ12 ?hy12 ?hS12 ?hrest12
              case hi12 => (conv => lhs; simp only [List.getElem?_toArray, List.getElem?_cons_zero, List.getElem?_cons_succ]); try exact rfl
              case hs12 => kernel_rfl
              case hf12 => kernel_rfl
              case hr12 => kernel_rfl
              case hQ12 => exact fun _ _ _ h => h
              case hS12 => assumption
              case hy12 => refine Or.inl ⟨by rfl, ?_⟩; intro w hSw; (try dsimp only at hSw); go_simp; (try with_reducible rfl)
              simp only [Act.put, List.setIfInBounds_toArray, List.set_cons_zero, List.set_cons_succ]
              refine wpAnyH_take (i := 12) (oi := ?oi13) (v := ?v13) ?hi13 ?hs13 ?hf13 ?hr13 ?hQ13 ?hy13 ?hS13 ?hrest13
              case hi13 => (conv => lhs; simp only [List.getElem?_toArray, List.getElem?_cons_zero, List.getElem?_cons_succ]); try exact rfl
              case hs13 => kernel_rfl
              case hf13 => kernel_rfl
              case hr13 => kernel_rfl
              case hQ13 => exact fun _ _ _ h => h
              case hS13 => assumption
              case hy13 => refine Or.inl ⟨by rfl, ?_⟩; intro w hSw; (try dsimp only at hSw); go_simp; (try with_reducible rfl)
              simp only [Act.put, List.setIfInBounds_toArray, List.set_cons_zero, List.set_cons_succ]
              refine wpAnyH_take (i := 13) (oi := ?oi14) (v := ?v14) ?hi14 ?hs14 ?hf14 ?hr14 ?hQ14 ?hy14 ?hS14 ?hrest14
              case hi14 => (conv => lhs; simp only [List.getElem?_toArray, List.getElem?_cons_zero, List.getElem?_cons_succ]); try exact rfl
              case hs14 => kernel_rfl
              case hf14 => kernel_rfl
              case hr14 => kernel_rfl
              case hQ14 => exact fun _ _ _ h => h
              case hS14 => assumption
              case hy14 => refine Or.inl ⟨by rfl, ?_⟩; intro w hSw; (try dsimp only at hSw); go_simp; (try with_reducible rfl)
              simp only [Act.put, List.setIfInBounds_toArray, List.set_cons_zero, List.set_cons_succ]
              refine wpAnyH_take (i := 14) (oi := ?oi15) (v := ?v15) ?hi15 ?hs15 ?hf15 ?hr15 ?hQ15 ?hy15 ?hS15 ?hrest15
              case hi15 => (conv => lhs; simp only [List.getElem?_toArray, List.getElem?_cons_zero, List.getElem?_cons_succ]); try exact rfl
              case hs15 => kernel_rfl
              case hf15 => kernel_rfl
              case hr15 => kernel_rfl
              case hQ15 => exact fun _ _ _ h => h
              case hS15 => assumption
              case hy15 => refine Or.inl ⟨by rfl, ?_⟩; intro w hSw; (try dsimp only at hSw); go_simp; (try with_reducible rfl)
              simp only [Act.put, List.setIfInBounds_toArray, List.set_cons_zero, List.set_cons_succ]
              refine wpAnyH_take (i := 15) (oi := ?oi16) (v := ?v16) ?hi16 ?hs16 ?hf16 ?hr16 ?hQ16 ?hy16 ?hS16 ?hrest16
              case hi16 => (conv => lhs; simp only [List.getElem?_toArray, List.getElem?_cons_zero, List.getElem?_cons_succ]); try exact rfl
              case hs16 => kernel_rfl
              case hf16 => kernel_rfl
              case hr16 => kernel_rfl
              case hQ16 => exact fun _ _ _ h => h
              case hS16 => assumption
              case hy16 => refine Or.inl ⟨by rfl, ?_⟩; intro w hSw; (try dsimp only at hSw); go_simp; (try with_reducible rfl)
              simp only [Act.put, List.setIfInBounds_toArray, List.set_cons_zero, List.set_cons_succ]
              refine wpAnyH_take (i := 16) (oi := ?oi17) (v := ?v17) ?hi17 ?hs17 ?hf17 ?hr17 ?hQ17 ?hy17 ?hS17 ?hrest17
              case hi17 => (conv => lhs; simp only [List.getElem?_toArray, List.getElem?_cons_zero, List.getElem?_cons_succ]); try exact rfl
              case hs17 => kernel_rfl
              case hf17 => kernel_rfl
              case hr17 => kernel_rfl
              case hQ17 => exact fun _ _ _ h => h
              case hS17 => assumption
              case hy17 => refine Or.inl ⟨by rfl, ?_⟩; intro w hSw; (try dsimp only at hSw); go_simp; (try with_reducible rfl)
              simp only [Act.put, List.setIfInBounds_toArray, List.set_cons_zero, List.set_cons_succ]
              refine wpAnyH_take (i := 17) (oi := ?oi18) (v := ?v18) ?hi18 ?hs18 ?hf18 ?hr18 ?hQ18 ?hy18 ?hS18 ?hrest18
              case hi18 => (conv => lhs; simp only [List.getElem?_toArray, List.getElem?_cons_zero, List.getElem?_cons_succ]); try exact rfl
              case hs18 => kernel_rfl
              case hf18 => kernel_rfl
              case hr18 => kernel_rfl
              case hQ18 => exact fun _ _ _ h => h
              case hS18 => assumption
              case hy18 => refine Or.inl ⟨by rfl, ?_⟩; intro w hSw; (try dsimp only at hSw); go_simp; (try with_reducible rfl)
              simp only [Act.put, List.setIfInBounds_toArray, List.set_cons_zero, List.set_cons_succ]
              refine wpAnyH_take (i := 18) (oi := ?oi19) (v := ?v19) ?hi19 ?hs19 ?hf19 ?hr19 ?hQ19 ?hy19 ?hS19 ?hrest19
              case hi19 => (conv => lhs; simp only [List.getElem?_toArray, List.getElem?_cons_zero, List.getElem?_cons_succ]); try exact rfl
              case hs19 => kernel_rfl
              case hf19 => kernel_rfl
              case hr19 => kernel_rfl
              case hQ19 => exact fun _ _ _ h => h
              case hS19 => assumption
              case hy19 => refine Or.inl ⟨by rfl, ?_⟩; intro w hSw; (try dsimp only at hSw); go_simp; (try with_reducible rfl)
              simp only [Act.put, List.setIfInBounds_toArray, List.set_cons_zero, List.set_cons_succ]
              refine wpAnyH_take (i := 19) (oi := ?oi20) (v := ?v20) ?hi20 ?hs20 ?hf20 ?hr20 ?hQ20 ?hy20 ?hS20 ?hrest20
              case hi20 => (conv => lhs; simp only [List.getElem?_toArray, List.getElem?_cons_zero, List.getElem?_cons_succ]); try exact rfl
              case hs20 => kernel_rfl
              case hf20 => kernel_rfl
              case hr20 => kernel_rfl
              case hQ20 => exact fun _ _ _ h => h
              case hS20 => assumption
              case hy20 => refine Or.inl ⟨by rfl, ?_⟩; intro w hSw; (try dsimp only at hSw); go_simp; (try with_reducible rfl)
              simp only [Act.put, List.setIfInBounds_toArray, List.set_cons_zero, List.set_cons_succ]
              refine wpAnyH_take (i := 20) (oi := ?oi21) (v := ?v21) ?hi21 ?hs21 ?hf21 ?hr21 ?hQ21 ?hy21 ?hS21 ?hrest21
              case hi21 => (conv => lhs; simp only [List.getElem?_toArray, List.getElem?_cons_zero, List.getElem?_cons_succ]); try exact rfl
              case hs21 => kernel_rfl
              case hf21 => kernel_rfl
              case hr21 => kernel_rfl
              case hQ21 => exact fun _ _ _ h => h
              case hS21 => assumption
              case hy21 => refine Or.inl ⟨by rfl, ?_⟩; intro w hSw; (try dsimp only at hSw); go_simp; (try with_reducible rfl)
              simp only [Act.put, List.setIfInBounds_toArray, List.set_cons_zero, List.set_cons_succ]
              refine wpAnyH_take (i := 21) (oi := ?oi22) (v := ?v22) ?hi22 ?hs22 ?hf22 ?hr22 ?hQ22 ?hy22 ?hS22 ?hrest22
              case hi22 => (conv => lhs; simp only [List.getElem?_toArray, List.getElem?_cons_zero, List.getElem?_cons_succ]); try exact rfl
              case hs22 => kernel_rfl
              case hf22 => kernel_rfl
              case hr22 => kernel_rfl
              case hQ22 => exact fun _ _ _ h => h
              case hS22 => assumption
              case hy22 => refine Or.inl ⟨by rfl, ?_⟩; intro w hSw; (try dsimp only at hSw); go_simp; (try with_reducible rfl)
              simp only [Act.put, List.setIfInBounds_toArray, List.set_cons_zero, List.set_cons_succ]
              refine wpAnyH_take (i := 22) (oi := ?oi23) (v := ?v23) ?hi23 ?hs23 ?hf23 ?hr23 ?hQ23 ?hy23 ?hS23 ?hrest23
              case hi23 => (conv => lhs; simp only [List.getElem?_toArray, List.getElem?_cons_zero, List.getElem?_cons_succ]); try exact rfl
              case hs23 => kernel_rfl
              case hf23 => kernel_rfl
              case hr23 => kernel_rfl
              case hQ23 => exact fun _ _ _ h => h
              case hS23 => assumption
              case hy23 => refine Or.inl ⟨by rfl, ?_⟩; intro w hSw; (try dsimp only at hSw); go_simp; (try with_reducible rfl)
              simp only [Act.put, List.setIfInBounds_toArray, List.set_cons_zero, List.set_cons_succ]
              refine wpAnyH_take (i := 23) (oi := ?oi24) (v := ?v24) ?hi24 ?hs24 ?hf24 ?hr24 ?hQ24 ?hy24 ?hS24 ?hrest24
              case hi24 => (conv => lhs; simp only [List.getElem?_toArray, List.getElem?_cons_zero, List.getElem?_cons_succ]); try exact rfl
              case hs24 => kernel_rfl
              case hf24 => kernel_rfl
              case hr24 => kernel_rfl
              case hQ24 => exact fun _ _ _ h => h
              case hS24 => assumption
              case hy24 => refine Or.inl ⟨by rfl, ?_⟩; intro w hSw; (try dsimp only at hSw); go_simp; (try with_reducible rfl)
              simp only [Act.put, List.setIfInBounds_toArray, List.set_cons_zero, List.set_cons_succ]
              refine wpAnyH_take (i := 24) (oi := ?oi25) (v := ?v25) ?hi25 ?hs25 ?hf25 ?hr25 ?hQ25 ?hy25 ?hS25 ?hrest25
              case hi25 => (conv => lhs; simp only [List.getElem?_toArray, List.getElem?_cons_zero, List.getElem?_cons_succ]); try exact rfl
              case hs25 => kernel_rfl
              case hf25 => kernel_rfl
              case hr25 => kernel_rfl
              case hQ25 => exact fun _ _ _ h => h
              case hS25 => assumption
              case hy25 => refine Or.inl ⟨by rfl, ?_⟩; intro w hSw; (try dsimp only at hSw); go_simp; (try with_reducible rfl)
              simp only [Act.put, List.setIfInBounds_toArray, List.set_cons_zero, List.set_cons_succ]
              refine wpAnyH_take (i := 25) (oi := ?oi26) (v := ?v26) ?hi26 ?hs26 ?hf26 ?hr26 ?hQ26 ?hy26 ?hS26 ?hrest26
              case hi26 => (conv => lhs; simp only [List.getElem?_toArray, List.getElem?_cons_zero, List.getElem?_cons_succ]); try exact rfl
              case hs26 => kernel_rfl
              case hf26 => kernel_rfl
              case hr26 => kernel_rfl
              case hQ26 => exact fun _ _ _ h => h
              case hS26 => assumption
              case hy26 => refine Or.inl ⟨by rfl, ?_⟩; intro w hSw; (try dsimp only at hSw); go_simp; (try with_reducible rfl)
              simp only [Act.put, List.setIfInBounds_toArray, List.set_cons_zero, List.set_cons_succ]
              refine wpAnyH_take (i := 26) (oi := ?oi27) (v := ?v27) ?hi27 ?hs27 ?hf27 ?hr27 ?hQ27 ?hy27 ?hS27 ?hrest27
              case hi27 => (conv => lhs; simp only [List.getElem?_toArray, List.getElem?_cons_zero, List.getElem?_cons_succ]); try exact rfl
              case hs27 => kernel_rfl
              case hf27 => kernel_rfl
              case hr27 => kernel_rfl
              case hQ27 => exact fun _ _ _ h => h
              case hS27 => assumption
              case hy27 => refine Or.inl ⟨by rfl, ?_⟩; intro w hSw; (try dsimp only at hSw); go_simp; (try with_reducible rfl)
              simp only [Act.put, List.setIfInBounds_toArray, List.set_cons_zero, List.set_cons_succ]
              refine wpAnyH_take (i := 27) (oi := ?oi28) (v := ?v28) ?hi28 ?hs28 ?hf28 ?hr28 ?hQ28 ?hy28 ?hS28 ?hrest28
              case hi28 => (conv => lhs; simp only [List.getElem?_toArray, List.getElem?_cons_zero, List.getElem?_cons_succ]); try exact rfl
              case hs28 => kernel_rfl
              case hf28 => kernel_rfl
              case hr28 => kernel_rfl
              case hQ28 => exact fun _ _ _ h => h
              case hS28 => assumption
              case hy28 => refine Or.inl ⟨by rfl, ?_⟩; intro w hSw; (try dsimp only at hSw); go_simp; (try with_reducible rfl)
              simp only [Act.put, List.setIfInBounds_toArray, List.set_cons_zero, List.set_cons_succ]
              refine wpAnyH_take (i := 28) (oi := ?oi29) (v := ?v29) ?hi29 ?hs29 ?hf29 ?hr29 ?hQ29 ?hy29 ?hS29 ?hrest29
              case hi29 => (conv => lhs; simp only [List.getElem?_toArray, List.getElem?_cons_zero, List.getElem?_cons_succ]); try exact rfl
              case hs29 => kernel_rfl
              case hf29 => kernel_rfl
              case hr29 => kernel_rfl
              case hQ29 => exact fun _ _ _ h => h
              case hS29 => assumption
              case hy29 => refine Or.inl ⟨by rfl, ?_⟩; intro w hSw; (try dsimp only at hSw); go_simp; (try with_reducible rfl)
              simp only [Act.put, List.setIfInBounds_toArray, List.set_cons_zero, List.set_cons_succ]
              refine wpAnyH_take (i := 29) (oi := ?oi30) (v := ?v30) ?hi30 ?hs30 ?hf30 ?hr30 ?hQ30 ?hy30 ?hS30 ?hrest30
              case hi30 => (conv => lhs; simp only [List.getElem?_toArray, List.getElem?_cons_zero, List.getElem?_cons_succ]); try exact rfl
              case hs30 => kernel_rfl
              case hf30 => kernel_rfl
              case hr30 => kernel_rfl
              case hQ30 => exact fun _ _ _ h => h
              case hS30 => assumption
              case hy30 => refine Or.inl ⟨by rfl, ?_⟩; intro w hSw; (try dsimp only at hSw); go_simp; (try with_reducible rfl)
              simp only [Act.put, List.setIfInBounds_toArray, List.set_cons_zero, List.set_cons_succ]
              refine wpAnyH_take (i := 30) (oi := ?oi31) (v := ?v31) ?hi31 ?hs31 ?hf31 ?hr31 ?hQ31 ?hy31 ?hS31 ?hrest31
              case hi31 => (conv => lhs; simp only [List.getElem?_toArray, List.getElem?_cons_zero, List.getElem?_cons_succ]); try exact rfl
              case hs31 => kernel_rfl
              case hf31 => kernel_rfl
              case hr31 => kernel_rfl
              case hQ31 => exact fun _ _ _ h => h
              case hS31 => assumption
              case hy31 => refine Or.inl ⟨by rfl, ?_⟩; intro w hSw; (try dsimp only at hSw); go_simp; (try with_reducible rfl)
              simp only [Act.put, List.setIfInBounds_toArray, List.set_cons_zero, List.set_cons_succ]
              refine wpAnyH_take (i := 31) (oi := ?oi32) (v := ?v32) ?hi32 ?hs32 ?hf32 ?hr32 ?hQ32 ?hy32 ?hS32 ?hrest32
              case hi32 => (conv => lhs; simp only [List.getElem?_toArray, List.getElem?_cons_zero, List.getElem?_cons_succ]); try exact rfl
              case hs32 => kernel_rfl
              case hf32 => kernel_rfl
              case hr32 => kernel_rfl
              case hQ32 => exact fun _ _ _ h => h
              case hS32 => assumption
              case hy32 => refine Or.inl ⟨by rfl, ?_⟩; intro w hSw; (try dsimp only at hSw); go_simp; (try with_reducible rfl)
              simp only [Act.put, List.setIfInBounds_toArray, List.set_cons_zero, List.set_cons_succ]
              refine wpAnyH_take (i := 32) (oi := ?oi33) (v := ?v33) ?hi33 ?hs33 ?hf33 ?hr33 ?hQ33 ?hy33 ?hS33 ?hrest33
              case hi33 => (conv => lhs; simp only [List.getElem?_toArray, List.getElem?_cons_zero, List.getElem?_cons_succ]); try exact rfl
              case hs33 => kernel_rfl
              case hf33 => kernel_rfl
              case hr33 => kernel_rfl
              case hQ33 => exact fun _ _ _ h => h
              case hS33 => assumption
              case hy33 => refine Or.inl ⟨by rfl, ?_⟩; intro w hSw; (try dsimp only at hSw); go_simp; (try with_reducible rfl)
              simp only [Act.put, List.setIfInBounds_toArray, List.set_cons_zero, List.set_cons_succ]
              refine wpAnyH_take (i := 33) (oi := ?oi34) (v := ?v34) ?hi34 ?hs34 ?hf34 ?hr34 ?hQ34 ?hy34 ?hS34 ?hrest34
              case hi34 => (conv => lhs; simp only [List.getElem?_toArray, List.getElem?_cons_zero, List.getElem?_cons_succ]); try exact rfl
              case hs34 => kernel_rfl
              case hf34 => kernel_rfl
              case hr34 => kernel_rfl
              case hQ34 => exact fun _ _ _ h => h
              case hS34 => assumption
              case hy34 => refine Or.inl ⟨by rfl, ?_⟩; intro w hSw; (try dsimp only at hSw); go_simp; (try with_reducible rfl)
              simp only [Act.put, List.setIfInBounds_toArray, List.set_cons_zero, List.set_cons_succ]
              refine wpAnyH_take (i := 34) (oi := ?oi35) (v := ?v35) ?hi35 ?hs35 ?hf35 ?hr35 ?hQ35 ?hy35 ?hS35 ?hrest35
              case hi35 => (conv => lhs; simp only [List.getElem?_toArray, List.getElem?_cons_zero, List.getElem?_cons_succ]); try exact rfl
              case hs35 => kernel_rfl
              case hf35 => kernel_rfl
              case hr35 => kernel_rfl
              case hQ35 => exact fun _ _ _ h => h
              case hS35 => assumption
              case hy35 => refine Or.inl ⟨by rfl, ?_⟩; intro w hSw; (try dsimp only at hSw); go_simp; (try with_reducible rfl)
              simp only [Act.put, List.setIfInBounds_toArray, List.set_cons_zero, List.set_cons_succ]
              refine wpAnyH_take (i := 35) (oi := ?oi36) (v := ?v36) ?hi36 ?hs36 ?hf36 ?hr36 ?hQ36 ?hy36 ?hS36 ?hrest36
              case hi36 => (conv => lhs; simp only [List.getElem?_toArray, List.getElem?_cons_zero, List.getElem?_cons_succ]); try exact rfl
              case hs36 => kernel_rfl
              case hf36 => kernel_rfl
              case hr36 => kernel_rfl
              case hQ36 => exact fun _ _ _ h => h
              case hS36 => assumption
              case hy36 => refine Or.inl ⟨by rfl, ?_⟩; intro w hSw; (try dsimp only at hSw); go_simp; (try with_reducible rfl)
              simp only [Act.put, List.setIfInBounds_toArray, List.set_cons_zero, List.set_cons_succ]
              refine wpAnyH_take (i := 36) (oi := ?oi37) (v := ?v37) ?hi37 ?hs37 ?hf37 ?hr37 ?hQ37 ?hy37 ?hS37 ?hrest37
              case hi37 => (conv => lhs; simp only [List.getElem?_toArray, List.getElem?_cons_zero, List.getElem?_cons_succ]); try exact rfl
              case hs37 => kernel_rfl
              case hf37 => kernel_rfl
              case hr37 => kernel_rfl
              case hQ37 => exact fun _ _ _ h => h
              case hS37 => assumption
              case hy37 => refine Or.inl ⟨by rfl, ?_⟩; intro w hSw; (try dsimp only at hSw); go_simp; (try with_reducible rfl)
              simp only [Act.put, List.setIfInBounds_toArray, List.set_cons_zero, List.set_cons_succ]
              refine wpAnyH_take (i := 37) (oi := ?oi38) (v := undef) ?hi38 ?hs38 ?hf38 ?hr38 ?hQ38 ?hy38 ?hS38 ?hrest38
              case hi38 => (conv => lhs; simp only [List.getElem?_toArray, List.getElem?_cons_zero, List.getElem?_cons_succ]); try exact rfl
              case hs38 => kernel_rfl
              case hf38 => kernel_rfl
              case hr38 => kernel_rfl
              case hQ38 => exact fun _ _ _ h => h
              case hS38 => assumption
              case hy38 => exact Or.inr ⟨by rfl, rfl⟩
              simp only [Act.put, List.setIfInBounds_toArray, List.set_cons_zero, List.set_cons_succ]
              refine wpAnyH_take (i := 38) (oi := ?oi39) (v := undef) ?hi39 ?hs39 ?hf39 ?hr39 ?hQ39 ?hy39 ?hS39 ?hrest39
              case hi39 => (conv => lhs; simp only [List.getElem?_toArray, List.getElem?_cons_zero, List.getElem?_cons_succ]); try exact rfl
              case hs39 => kernel_rfl
              case hf39 => kernel_rfl
              case hr39 => kernel_rfl
              case hQ39 => exact fun _ _ _ h => h
              case hS39 => assumption
              case hy39 => exact Or.inr ⟨by rfl, rfl⟩
              simp only [Act.put, List.setIfInBounds_toArray, List.set_cons_zero, List.set_cons_succ]
              refine wpAnyH_take (i := 39) (oi := ?oi40) (v := undef) ?hi40 ?hs40 ?hf40 ?hr40 ?hQ40 ?hy40 ?hS40 ?hrest40
              case hi40 => (conv => lhs; simp only [List.getElem?_toArray, List.getElem?_cons_zero, List.getElem?_cons_succ]); try exact rfl
              case hs40 => kernel_rfl
              case hf40 => kernel_rfl
              case hr40 => kernel_rfl
              case hQ40 => exact fun _ _ _ h => h
              case hS40 => assumption
              case hy40 => exact Or.inr ⟨by rfl, rfl⟩
              simp only [Act.put, List.setIfInBounds_toArray, List.set_cons_zero, List.set_cons_succ]
              refine wpAnyH_take (i := 40) (oi := ?oi41) (v := ?v41) ?hi41 ?hs41 ?hf41 ?hr41 ?hQ41 ?hy41 ?hS41 ?hrest41
              case hi41 => (conv => lhs; simp only [List.getElem?_toArray, List.getElem?_cons_zero, List.getElem?_cons_succ]); try exact rfl
              case hs41 => kernel_rfl
              case hf41 => kernel_rfl
              case hr41 => kernel_rfl
              case hQ41 => exact fun _ _ _ h => h
              case hS41 => assumption
              case hy41 => refine Or.inl ⟨by rfl, ?_⟩; intro w hSw; (try dsimp only at hSw); go_simp; (try with_reducible rfl)
              simp only [Act.put, List.setIfInBounds_toArray, List.set_cons_zero, List.set_cons_succ]
              refine wpAnyH_take (i := 41) (oi := ?oi42) (v := ?v42) ?hi42 ?hs42 ?hf42 ?hr42 ?hQ42 ?hy42 ?hS42 ?hrest42
              case hi42 => (conv => lhs; simp only [List.getElem?_toArray, List.getElem?_cons_zero, List.getElem?_cons_succ]); try exact rfl
              case hs42 => kernel_rfl
              case hf42 => kernel_rfl
              case hr42 => kernel_rfl
              case hQ42 => exact fun _ _ _ h => h
              case hS42 => assumption
              case hy42 => refine Or.inl ⟨by rfl, ?_⟩; intro w hSw; (try dsimp only at hSw); go_simp; (try with_reducible rfl)
              simp only [Act.put, List.setIfInBounds_toArray, List.set_cons_zero, List.set_cons_succ]
              refine wpAnyH_take (i := 42) (oi := ?oi43) (v := ?v43) ?hi43 ?hs43 ?hf43 ?hr43 ?hQ43 ?hy43 ?hS43 ?hrest43
              case hi43 => (conv => lhs; simp only [List.getElem?_toArray, List.getElem?_cons_zero, List.getElem?_cons_succ]); try exact rfl
              case hs43 => kernel_rfl
              case hf43 => kernel_rfl
              case hr43 => kernel_rfl
              case hQ43 => exact fun _ _ _ h => h
              case hS43 => assumption
              case hy43 => refine Or.inl ⟨by rfl, ?_⟩; intro w hSw; (try dsimp only at hSw); go_simp; (try with_reducible rfl)
              simp only [Act.put, List.setIfInBounds_toArray, List.set_cons_zero, List.set_cons_succ]
              refine wpAnyH_done (by kernel_rfl) ?_ _
              go_wp2
              go_ret
              exact ⟨rfl, belN B2 (by first | exact belN C16.drew hb20 | exact belN (below_drewN C16 _) hb20 | exact belN (below_drewN C16 _).drew hb20)⟩
        · have hz := hM0 h6
          have hmz := hm0 h6
          have q9 : ¬ ((k : Int) < (M.length : Int)) := by omega
          subst hmz
          rw [hz] at q9 hlt ⊢
          obtain ⟨N, hN⟩ : ∃ N, L.length = N := ⟨_, rfl⟩
          rw [hN] at h6 ⊢
          have n6 : ((N : Int) == 6) = false := by simp; omega
          go_wp2
          go_ret
          exact ⟨rfl, belN B2 Cr⟩
  case false =>
    refine (ringRead_impl A2 L.length c2 L (by omega) hLs _ (Hp.out _ C10)).mono ?_
    rintro e w12 ⟨vl, rfl, ownl, hb12⟩
    have C12 := belN C10 hb12
    obtain ⟨Al, cl, rfl, _, _, hrl⟩ := own_vals ownl
    clear ownl hb12
    obtain ⟨M, hM, hMn, hMb, hMl, hM6, hM0, Hmore⟩ := ring_facts hg
    have HM := Lib.hid hM
    rw [hM] at hrl
    rw [hM]
    clear hM
    go_wp2
    go_loopw [15] (fun i wr => ∃ k : Nat, 1 ≤ k ∧ k ≤ 7 ∧ i = .int .i64 k ∧ Below w12.heap.size w12 wr) (fun i _ => 7 - (intOf i).toNat)
    case atStart => exact ⟨1, by omega, by omega, rfl, bel0 _⟩
    case round =>
      obtain ⟨k, hk1, hk7, rfl, hbel⟩ := hrel
      by_cases hlt : k < M.length
      · obtain ⟨j, hj⟩ : ∃ j, k = j + 1 := ⟨k - 1, by omega⟩
        obtain ⟨hk, b1, o1, hA1, _, y0, _⟩ := reads_rec ((hrl.below hbel).more hbel.size) hlt
        obtain ⟨hkp, b2, o2, hA2, _, z0, _⟩ := reads_rec ((hrl.below hbel).more hbel.size) (show j < M.length by omega)
        subst hA1
        simp only [Option.some.injEq, Addr.mk.injEq, and_true] at hA2
        obtain ⟨rfl, rfl⟩ := hA2
        have hn1 : M[k].1 = M[j].1 + 1 := by subst hj; exact hMn j hlt
        have hab := hMb j (by omega)
        obtain ⟨a, ha⟩ : ∃ a, M[j].1 = a := ⟨_, rfl⟩
        rw [ha] at z0 hn1 hab
        rw [hn1] at y0
        have wa : IntKind.i64.wrap (a + 1) = a + 1 := by rw [IntKind.wrap_i64]; omega
        have wj : IntKind.i64.wrap ((k : Int) - 1) = (j : Int) := by rw [IntKind.wrap_i64]; omega
        have q0 : (0 : Int) ≤ (k : Int) := by omega
        have q1 : (k : Int) < (M.length : Int) := by omega
        have q2 : (0 : Int) ≤ (j : Int) := by omega
        have q3 : (j : Int) < (M.length : Int) := by omega
        clear hMn hMb hMl hM0 ha hn1 hj
        go_wp2_with fail
        go_still (by kernel_rfl)
        change Exit.then _ _ Exit.normal _ wr.drew
        go_wp2
        first
          | exact ⟨⟨k + 1, by omega, by omega, by go_num, hbel.drew⟩, by simp [intOf]; omega⟩
          | (go_roundw; case rel => exact ⟨k + 1, by omega, by omega, by go_num, hbel.drew⟩; case measure => (simp [intOf]; omega))
      · have Cr := belN C12 hbel
        by_cases h6 : L.length = 6
        · obtain ⟨N, hN⟩ : ∃ N, L.length = N := ⟨_, rfl⟩
          rw [hN] at h6 ⊢
          subst h6
          have q9 : ¬ ((k : Int) < (M.length : Int)) := by omega
          by_cases h0 : M.length = 0
          · rw [h0] at q9 hlt ⊢
            go_wp2_with fail
            refine (ringRead_spec A2 6 c2 L (by omega) hLs _ (hN ▸ Hp.out _ Cr)).mono ?_
            rintro e w13 ⟨vs, rfl, owns, hb13⟩
            rw [HM.out] at owns
            obtain ⟨As, cs, rfl, _, _, _⟩ := own_vals owns
            go_wp2
            go_ret
            exact ⟨rfl, belN B2 (belN Cr hb13)⟩
          · obtain ⟨p, hp⟩ : ∃ p, M.length = p + 1 := ⟨M.length - 1, by omega⟩
            obtain ⟨T, hT⟩ : ∃ T, topN L 6 = T := ⟨_, rfl⟩
            obtain ⟨hk, b1, o1, rfl, _, y0, _⟩ := reads_rec ((hrl.below hbel).more hbel.size) (show p < M.length by omega)
            have hTp : M[p].1 = T := by
              have h1 := hMl (by omega)
              have h2 : M[M.length - 1]'(by omega) = M[p] := by congr 1; omega
              rw [h2, hT] at h1
              exact h1
            have hTb := hMb p (by omega)
            rw [hTp] at y0 hTb
            obtain ⟨P, hP⟩ : ∃ P, M.length = P := ⟨_, rfl⟩
            have Hmore2 := Hmore.out (by omega)
            rw [hT, hP] at Hmore2
            obtain ⟨hput, hlen, hlast⟩ := Hmore2
            rw [hP] at hp h0 hM6 q9 hlt ⊢
            have wP : IntKind.i64.wrap ((P : Int) - 1) = (p : Int) := by rw [IntKind.wrap_i64]; omega
            have wT : IntKind.i64.wrap (T + 1) = T + 1 := by rw [IntKind.wrap_i64]; omega
            have q0 : (0 : Int) ≤ (p : Int) := by omega
            have q1 : (p : Int) < (P : Int) := by omega
            have P0 : ((P : Int) == 0) = false := by simp; omega
            obtain ⟨W14, hW14⟩ : ∃ W, wr.alloc (.cells #[.int .i64 (T + 1), .string newT] 26) = W := ⟨_, rfl⟩
            have O14 : Blk W14 wr.heap.size 26 #[.int .i64 (T + 1), .string newT] := by rw [← hW14]; exact Blk.new' _ _ _ _ rfl
            have C14 : Below w2.heap.size w2 W14 := by rw [← hW14]; exact belA Cr _
            have Hlen := Lib.hid hlen
            have Hlast := Lib.hid hlast
            have Hlp := Lib.hid hp
            have HP := Lib.hid hP
            clear hlen hlast hMn hMb hMl hM0 hp hP hTp hT
            unfold newT at hW14
            go_upto_region 22 with fail
            try rw [hW14]
            clear hW14
            have x0 := O14.get (x := .int .i64 (T + 1)) 0 rfl
            have x1 := O14.get (x := .string newT) 1 rfl
            have lO := O14.lt
            go_wp2_with fail
            clear x0 x1 lO y0 q0 q1 wP wT
            refine (ringPut_impl A2 6 c2 L (by omega) hN (T + 1) newT (by decide) W14 (hN ▸ Hp.out _ C14)).mono ?_
            intro e w15 hpp
            obtain ⟨A5, c5, rfl, own5, hb15⟩ := put6 hpp hN
            have C15 := belN C14 hb15
            have O15 := O14.below hb15 O14.lt
            obtain ⟨_, _, h5, _, _, hr5⟩ := own_vals own5
            simp only [Value.slice.injEq, true_and] at h5
            obtain ⟨rfl, rfl⟩ := h5
            clear hpp own5 hb15 O14 C14
            rw [hput]
            obtain ⟨L', hL'⟩ : ∃ X, putL L (T + 1) newT = X := ⟨_, rfl⟩
            have hl6 : L'.length = 6 := by rw [← hL']; exact putL_len L _ _ hN
            have hgs : ∀ s ∈ L', s.size ≤ 1000000000 := by
              intro s hs
              rw [← hL'] at hs
              unfold putL at hs
              rw [if_pos hN] at hs
              split at hs
              · rcases List.mem_or_eq_of_mem_set hs with hs | rfl
                · exact hLs s hs
                · have := show_sz (T + 1) newT
                  have : newT.size = 3 := by decide
                  omega
              · exact hLs s hs
            rw [hL'] at hr5
            have Hlen' := Lib.hid (hL' ▸ Hlen.out)
            have Hlast' := Lib.hid (hL' ▸ Hlast.out)
            clear Hlen Hlast hL'
            go_wp2_with fail
            refine (ringRead_impl _ 6 _ L' (by omega) hgs w15 hr5).mono ?_
            rintro e w16 ⟨vm, rfl, ownm, hb16⟩
            have C16 := belN C15 hb16
            have O16 := O15.below hb16 O15.lt
            clear hb16 O15 C15 hr5
            obtain ⟨Am, cm, rfl, _, _, hrm⟩ := own_vals ownm
            clear ownm
            obtain ⟨M', hM'⟩ : ∃ X, ringL L' = X := ⟨_, rfl⟩
            rw [hM'] at Hlen' Hlast' hrm
            rw [hM']
            have hlenm := Hlen'.out
            obtain ⟨p', hp'⟩ : ∃ p', M'.length = p' + 1 := ⟨M'.length - 1, by have := Hlen'.out; omega⟩
            obtain ⟨hk', b5, o5, rfl, hb5, z0, z1⟩ := reads_rec hrm (show p' < M'.length by omega)
            have hlm := Hlast'.out p' hk' hp'.symm
            rw [hlm] at z0 z1
            obtain ⟨K, hK⟩ : ∃ K, M'.length = K := ⟨_, rfl⟩
            rw [hK] at hlenm hp' ⊢
            have x0 := O16.get (x := .int .i64 (T + 1)) 0 rfl
            have x1 := O16.get (x := .string newT) 1 rfl
            have wK : IntKind.i64.wrap ((K : Int) - 1) = (p' : Int) := by rw [IntKind.wrap_i64]; omega
            have wP : IntKind.i64.wrap ((P : Int) + 1) = (P : Int) + 1 := by rw [IntKind.wrap_i64]; omega
            have q0 : (0 : Int) ≤ (p' : Int) := by omega
            have q1 : (p' : Int) < (K : Int) := by omega
            have k1 : (K : Int) ≥ 1 := by omega
            have k6 : (P : Int) ≤ 6 := by omega
            clear hlm hK Hlen' Hlast' hrm hTb h0
            by_cases hP6 : P = 6
            · have e1 : ((K : Int) == (P : Int) + 1) = false := by simp; omega
              have e2 : ((K : Int) == 6) = true := by simp; omega
              clear hlenm hp' hP6
              go_wp2_with fail
              go_region_held3 (fun w' => w'.cell? ⟨b5, o5 + p' * 2, none⟩ = some (.int .i64 (T + 1)) ∧ w'.cell? ⟨b5, o5 + p' * 2 + 1, none⟩ = some (.string newT) ∧ w'.cell? ⟨wr.heap.size, 0, none⟩ = some (.int .i64 (T + 1)) ∧ w'.cell? ⟨wr.heap.size, 1, none⟩ = some (.string newT))
                (first | exact ⟨z0, z1, x0, x1⟩ | (refine ⟨keep1 hb20 ?_, keep1 hb20 ?_, keep1 hb20 ?_, keep1 hb20 ?_⟩ <;> go_keep))
                (first | (go_at_call 13; refine (ringRead_spec A2 6 c2 L (by omega) hLs _ (by first | exact hN ▸ Hp.out _ C16 | exact hN ▸ Hp.out _ C16.drew)).mono ?_; rintro e w20 ⟨vs, rfl, owns, hb20⟩; rw [HM.out, HP.out] at owns; obtain ⟨As, cs, rfl, _, _, _⟩ := own_vals owns))
              go_wp2
              go_ret
              exact ⟨rfl, belN B2 (by first | exact belN C16.drew hb20 | exact belN (below_drewN C16 _) hb20 | exact belN (below_drewN C16 _).drew hb20)⟩
            · have e1 : ((K : Int) == (P : Int) + 1) = true := by simp; omega
              clear hlenm hp' hP6
              go_wp2_with fail
              refine wp_region_held_drew (S := fun w' => w'.cell? ⟨b5, o5 + p' * 2, none⟩ = some (.int .i64 (T + 1)) ∧ w'.cell? ⟨b5, o5 + p' * 2 + 1, none⟩ = some (.string newT) ∧ w'.cell? ⟨wr.heap.size, 0, none⟩ = some (.int .i64 (T + 1)) ∧ w'.cell? ⟨wr.heap.size, 1, none⟩ = some (.string newT)) (by kernel_rfl) ⟨z0, z1, x0, x1⟩ (fun hHeld => ?_)
              refine wpAnyH_take (i := 0) (oi := ?oi101) (v := ?v101) ?hi101 ?hs101 ?hf101 ?hr101 ?hQ101 ?hy101 ?hS101 ?hrest101
              case hi101 => (conv => lhs; simp only [List.getElem?_toArray, List.getElem?_cons_zero]); try exact rfl
              case hs101 => kernel_rfl
              case hf101 => kernel_rfl
              case hr101 => kernel_rfl
              case hQ101 => exact fun _ _ _ h => h
              case hS101 => assumption
              case hy101 => refine Or.inl ⟨by rfl, ?_⟩; intro w hSw; (try dsimp only at hSw); go_simp; (try with_reducible rfl)
              simp only [Act.put, List.setIfInBounds_toArray, List.set_cons_zero, List.set_cons_succ]
              refine wpAnyH_take (i := 1) (oi := ?oi102) (v := ?v102) ?hi102 ?hs102 ?hf102 ?hr102 ?hQ102 ?hy102 ?hS102 ?hrest102
              case hi102 => (conv => lhs; simp only [List.getElem?_toArray, List.getElem?_cons_zero, List.getElem?_cons_succ]); try exact rfl
              case hs102 => kernel_rfl
              case hf102 => kernel_rfl
              case hr102 => kernel_rfl
              case hQ102 => exact fun _ _ _ h => h
              case hS102 => assumption
              case hy102 => refine Or.inl ⟨by rfl, ?_⟩; intro w hSw; (try dsimp only at hSw); go_simp; (try with_reducible rfl)
              simp only [Act.put, List.setIfInBounds_toArray, List.set_cons_zero, List.set_cons_succ]
              refine wpAnyH_take (i := 2) (oi := ?oi103) (v := ?v103) ?hi103 ?hs103 ?hf103 ?hr103 ?hQ103 ?hy103 ?hS103 ?hrest103
              case hi103 => (conv => lhs; simp only [List.getElem?_toArray, List.getElem?_cons_zero, List.getElem?_cons_succ]); try exact rfl
              case hs103 => kernel_rfl
              case hf103 => kernel_rfl
              case hr103 => kernel_rfl
              case hQ103 => exact fun _ _ _ h => h
              case hS103 => assumption
              case hy103 => refine Or.inl ⟨by rfl, ?_⟩; intro w hSw; (try dsimp only at hSw); go_simp; (try with_reducible rfl)
              simp only [Act.put, List.setIfInBounds_toArray, List.set_cons_zero, List.set_cons_succ]
              refine wpAnyH_take (i := 3) (oi := ?oi104) (v := ?v104) ?hi104 ?hs104 ?hf104 ?hr104 ?hQ104 ?hy104 ?hS104 ?hrest104
              case hi104 => (conv => lhs; simp only [List.getElem?_toArray, List.getElem?_cons_zero, List.getElem?_cons_succ]); try exact rfl
              case hs104 => kernel_rfl
              case hf104 => kernel_rfl
              case hr104 => kernel_rfl
              case hQ104 => exact fun _ _ _ h => h
              case hS104 => assumption
              case hy104 => refine Or.inl ⟨by rfl, ?_⟩; intro w hSw; (try dsimp only at hSw); go_simp; (try with_reducible rfl)
              simp only [Act.put, List.setIfInBounds_toArray, List.set_cons_zero, List.set_cons_succ]
              refine wpAnyH_take (i := 4) (oi := ?oi105) (v := ?v105) ?hi105 ?hs105 ?hf105 ?hr105 ?hQ105 ?hy105 ?hS105 ?hrest105
              case hi105 => (conv => lhs; simp only [List.getElem?_toArray, List.getElem?_cons_zero, List.getElem?_cons_succ]); try exact rfl
              case hs105 => kernel_rfl
              case hf105 => kernel_rfl
              case hr105 => kernel_rfl
              case hQ105 => exact fun _ _ _ h => h
              case hS105 => assumption
              case hy105 => refine Or.inl ⟨by rfl, ?_⟩; intro w hSw; (try dsimp only at hSw); go_simp; (try with_reducible rfl)
              simp only [Act.put, List.setIfInBounds_toArray, List.set_cons_zero, List.set_cons_succ]
              refine wpAnyH_take (i := 5) (oi := ?oi106) (v := ?v106) ?hi106 ?hs106 ?hf106 ?hr106 ?hQ106 ?hy106 ?hS106 ?hrest106
              case hi106 => (conv => lhs; simp only [List.getElem?_toArray, List.getElem?_cons_zero, List.getElem?_cons_succ]); try exact rfl
              case hs106 => kernel_rfl
              case hf106 => kernel_rfl
              case hr106 => kernel_rfl
              case hQ106 => exact fun _ _ _ h => h
              case hS106 => assumption
              case hy106 => refine Or.inl ⟨by rfl, ?_⟩; intro w hSw; (try dsimp only at hSw); go_simp; (try with_reducible rfl)
              simp only [Act.put, List.setIfInBounds_toArray, List.set_cons_zero, List.set_cons_succ]
              refine wpAnyH_take (i := 6) (oi := ?oi107) (v := ?v107) ?hi107 ?hs107 ?hf107 ?hr107 ?hQ107 ?hy107 ?hS107 ?hrest107
              case hi107 => (conv => lhs; simp only [List.getElem?_toArray, List.getElem?_cons_zero, List.getElem?_cons_succ]); try exact rfl
              case hs107 => kernel_rfl
              case hf107 => kernel_rfl
              case hr107 => kernel_rfl
              case hQ107 => exact fun _ _ _ h => h
              case hS107 => assumption
              case hy107 => refine Or.inl ⟨by rfl, ?_⟩; intro w hSw; (try dsimp only at hSw); go_simp; (try with_reducible rfl)
              simp only [Act.put, List.setIfInBounds_toArray, List.set_cons_zero, List.set_cons_succ]
              refine wpAnyH_ready (rs := [7]) (by kernel_rfl) (by simp) ?_
              refine AllReadyH.cons (o := ?oi108) ?hi108 (fun K hK => ?_) AllReadyH.nil
              case hi108 => (conv => lhs; simp only [List.getElem?_toArray, List.getElem?_cons_zero, List.getElem?_cons_succ]); try exact rfl
              go_simp
              go_at_call 13
              refine (ringRead_spec A2 6 c2 L (by omega) hLs _ (hN ▸ Hp.out _ C16.drew)).mono ?_
              rintro e w20 ⟨vs, rfl, owns, hb20⟩
              rw [HM.out, HP.out] at owns
              obtain ⟨As, cs, rfl, _, _, _⟩ := own_vals owns
              refine hK.out _ _ ⟨keep1 hb20 z0 (Nat.le_refl _), keep1 hb20 z1 (Nat.le_refl _), keep1 hb20 x0 (Nat.le_refl _), keep1 hb20 x1 (Nat.le_refl _)⟩ (fun hHeld108 => ?_)
              clear hK K
              try simp only [Act.put, List.setIfInBounds_toArray, List.set_cons_zero, List.set_cons_succ]
              refine wpAnyH_take (i := 8) (oi := ?oi109) (v := ?v109) ?hi109 ?hs109 ?hf109 ?hr109 ?hQ109 ?hy109 ?hS109 ?hrest109
              case hi109 => (conv => lhs; simp only [List.getElem?_toArray, List.getElem?_cons_zero, List.getElem?_cons_succ]); try exact rfl
              case hs109 => kernel_rfl
              case hf109 => kernel_rfl
              case hr109 => kernel_rfl
              case hQ109 => exact fun _ _ _ h => h
              case hS109 => assumption
              case hy109 => refine Or.inl ⟨by rfl, ?_⟩; intro w hSw; (try dsimp only at hSw); go_simp; (try with_reducible rfl)
              simp only [Act.put, List.setIfInBounds_toArray, List.set_cons_zero, List.set_cons_succ]
              refine wpAnyH_take (i := 9) (oi := ?oi110) (v := ?v110) ?hi110 ?hs110 ?hf110 ?hr110 ?hQ110 ?hy110 ?hS110 ?hrest110
              case hi110 => (conv => lhs; simp only [List.getElem?_toArray, List.getElem?_cons_zero, List.getElem?_cons_succ]); try exact rfl
              case hs110 => kernel_rfl
              case hf110 => kernel_rfl
              case hr110 => kernel_rfl
              case hQ110 => exact fun _ _ _ h => h
              case hS110 => assumption
              case hy110 => refine Or.inl ⟨by rfl, ?_⟩; intro w hSw; (try dsimp only at hSw); go_simp; (try with_reducible rfl)
              simp only [Act.put, List.setIfInBounds_toArray, List.set_cons_zero, List.set_cons_succ]
              refine wpAnyH_take (i := 10) (oi := ?oi111) (v := ?v111) ?hi111 ?hs111 ?hf111 ?hr111 ?hQ111 ?hy111 ?hS111 ?hrest111
              case hi111 => (conv => lhs; simp only [List.getElem?_toArray, List.getElem?_cons_zero, List.getElem?_cons_succ]); try exact rfl
              case hs111 => kernel_rfl
              case hf111 => kernel_rfl
              case hr111 => kernel_rfl
              case hQ111 => exact fun _ _ _ h => h
              case hS111 => assumption
              case hy111 => refine Or.inl ⟨by rfl, ?_⟩; intro w hSw; (try dsimp only at hSw); go_simp; (try with_reducible rfl)
              simp only [Act.put, List.setIfInBounds_toArray, List.set_cons_zero, List.set_cons_succ]
              refine wpAnyH_take (i := 11) (oi := ?oi112) (v := ?v112) ?hi112 ?hs112 ?hf112 ?hr112 ?hQ112 ?hy112 ?hS112 ?hrest112
              case hi112 => (conv => lhs; simp only [List.getElem?_toArray, List.getElem?_cons_zero, List.getElem?_cons_succ]); try exact rfl
              case hs112 => kernel_rfl
              case hf112 => kernel_rfl
              case hr112 => kernel_rfl
              case hQ112 => exact fun _ _ _ h => h
              case hS112 => assumption
              case hy112 => refine Or.inl ⟨by rfl, ?_⟩; intro w hSw; (try dsimp only at hSw); go_simp; (try with_reducible rfl)
              simp only [Act.put, List.setIfInBounds_toArray, List.set_cons_zero, List.set_cons_succ]
              refine wpAnyH_take (i := 12) (oi := ?oi113) (v := ?v113) ?hi113 ?hs113 ?hf113 ?hr113 ?hQ113 ?hy113 ?hS113 ?hrest113
              case hi113 => (conv => lhs; simp only [List.getElem?_toArray, List.getElem?_cons_zero, List.getElem?_cons_succ]); try exact rfl
              case hs113 => kernel_rfl
              case hf113 => kernel_rfl
              case hr113 => kernel_rfl
              case hQ113 => exact fun _ _ _ h => h
              case hS113 => assumption
              case hy113 => refine Or.inl ⟨by rfl, ?_⟩; intro w hSw; (try dsimp only at hSw); go_simp; (try with_reducible rfl)
              simp only [Act.put, List.setIfInBounds_toArray, List.set_cons_zero, List.set_cons_succ]
              refine wpAnyH_take (i := 13) (oi := ?oi114) (v := ?v114) ?hi114 ?hs114 ?hf114 ?hr114 ?hQ114 ?hy114 ?hS114 ?hrest114
              case hi114 => (conv => lhs; simp only [List.getElem?_toArray, List.getElem?_cons_zero, List.getElem?_cons_succ]); try exact rfl
              case hs114 => kernel_rfl
              case hf114 => kernel_rfl
              case hr114 => kernel_rfl
              case hQ114 => exact fun _ _ _ h => h
              case hS114 => assumption
              case hy114 => refine Or.inl ⟨by rfl, ?_⟩; intro w hSw; (try dsimp only at hSw); go_simp; (try with_reducible rfl)
              simp only [Act.put, List.setIfInBounds_toArray, List.set_cons_zero, List.set_cons_succ]
              refine wpAnyH_take (i := 14) (oi := ?oi115) (v := ?v115) ?hi115 ?hs115 ?hf115 ?hr115 ?hQ115 ?hy115 ?hS115 ?hrest115
              case hi115 => (conv => lhs; simp only [List.getElem?_toArray, List.getElem?_cons_zero, List.getElem?_cons_succ]); try exact rfl
              case hs115 => kernel_rfl
              case hf115 => kernel_rfl
              case hr115 => kernel_rfl
              case hQ115 => exact fun _ _ _ h => h
              case hS115 => assumption
              case hy115 => refine Or.inl ⟨by rfl, ?_⟩; intro w hSw; (try dsimp only at hSw); go_simp; (try with_reducible rfl)
              simp only [Act.put, List.setIfInBounds_toArray, List.set_cons_zero, List.set_cons_succ]
              refine wpAnyH_take (i := 15) (oi := ?oi116) (v := ?v116) ?hi116 ?hs116 ?hf116 ?hr116 ?hQ116 ?hy116 ?hS116 ?hrest116
              case hi116 => (conv => lhs; simp only [List.getElem?_toArray, List.getElem?_cons_zero, List.getElem?_cons_succ]); try exact rfl
              case hs116 => kernel_rfl
              case hf116 => kernel_rfl
              case hr116 => kernel_rfl
              case hQ116 => exact fun _ _ _ h => h
              case hS116 => assumption
              case hy116 => refine Or.inl ⟨by rfl, ?_⟩; intro w hSw; (try dsimp only at hSw); go_simp; (try with_reducible rfl)
              simp only [Act.put, List.setIfInBounds_toArray, List.set_cons_zero, List.set_cons_succ]
              refine wpAnyH_take (i := 16) (oi := ?oi117) (v := ?v117) ?hi117 ?hs117 ?hf117 ?hr117 ?hQ117 ?hy117 ?hS117 ?hrest117
              case hi117 => (conv => lhs; simp only [List.getElem?_toArray, List.getElem?_cons_zero, List.getElem?_cons_succ]); try exact rfl
              case hs117 => kernel_rfl
              case hf117 => kernel_rfl
              case hr117 => kernel_rfl
              case hQ117 => exact fun _ _ _ h => h
              case hS117 => assumption
              case hy117 => refine Or.inl ⟨by rfl, ?_⟩; intro w hSw; (try dsimp only at hSw); go_simp; (try with_reducible rfl)
              simp only [Act.put, List.setIfInBounds_toArray, List.set_cons_zero, List.set_cons_succ]
              refine wpAnyH_take (i := 17) (oi := ?oi118) (v := ?v118) ?hi118 ?hs118 ?hf118 ?hr118 ?hQ118 ?hy118 ?hS118 ?hrest118
              case hi118 => (conv => lhs; simp only [List.getElem?_toArray, List.getElem?_cons_zero, List.getElem?_cons_succ]); try exact rfl
              case hs118 => kernel_rfl
              case hf118 => kernel_rfl
              case hr118 => kernel_rfl
              case hQ118 => exact fun _ _ _ h => h
              case hS118 => assumption
              case hy118 => refine Or.inl ⟨by rfl, ?_⟩; intro w hSw; (try dsimp only at hSw); go_simp; (try with_reducible rfl)
              simp only [Act.put, List.setIfInBounds_toArray, List.set_cons_zero, List.set_cons_succ]
              refine wpAnyH_take (i := 18) (oi := ?oi119) (v := ?v119) ?hi119 ?hs119 ?hf119 ?hr119 ?hQ119 ?hy119 ?hS119 ?hrest119
              case hi119 => (conv => lhs; simp only [List.getElem?_toArray, List.getElem?_cons_zero, List.getElem?_cons_succ]); try exact rfl
              case hs119 => kernel_rfl
              case hf119 => kernel_rfl
              case hr119 => kernel_rfl
              case hQ119 => exact fun _ _ _ h => h
              case hS119 => assumption
              case hy119 => refine Or.inl ⟨by rfl, ?_⟩; intro w hSw; (try dsimp only at hSw); go_simp; (try with_reducible rfl)
              simp only [Act.put, List.setIfInBounds_toArray, List.set_cons_zero, List.set_cons_succ]
              refine wpAnyH_take (i := 19) (oi := ?oi120) (v := ?v120) ?hi120 ?hs120 ?hf120 ?hr120 ?hQ120 ?hy120 ?hS120 ?hrest120
              case hi120 => (conv => lhs; simp only [List.getElem?_toArray, List.getElem?_cons_zero, List.getElem?_cons_succ]); try exact rfl
              case hs120 => kernel_rfl
              case hf120 => kernel_rfl
              case hr120 => kernel_rfl
              case hQ120 => exact fun _ _ _ h => h
              case hS120 => assumption
              case hy120 => refine Or.inl ⟨by rfl, ?_⟩; intro w hSw; (try dsimp only at hSw); go_simp; (try with_reducible rfl)
              simp only [Act.put, List.setIfInBounds_toArray, List.set_cons_zero, List.set_cons_succ]
              refine wpAnyH_take (i := 20) (oi := ?oi121) (v := ?v121) ?hi121 ?hs121 ?hf121 ?hr121 ?hQ121 ?hy121 ?hS121 ?hrest121
              case hi121 => (conv => lhs; simp only [List.getElem?_toArray, List.getElem?_cons_zero, List.getElem?_cons_succ]); try exact rfl
              case hs121 => kernel_rfl
              case hf121 => kernel_rfl
              case hr121 => kernel_rfl
              case hQ121 => exact fun _ _ _ h => h
              case hS121 => assumption
              case hy121 => refine Or.inl ⟨by rfl, ?_⟩; intro w hSw; (try dsimp only at hSw); go_simp; (try with_reducible rfl)
              simp only [Act.put, List.setIfInBounds_toArray, List.set_cons_zero, List.set_cons_succ]
              refine wpAnyH_take (i := 21) (oi := ?oi122) (v := ?v122) ?hi122 ?hs122 ?hf122 ?hr122 ?hQ122 ?hy122 ?hS122 ?hrest122
              case hi122 => (conv => lhs; simp only [List.getElem?_toArray, List.getElem?_cons_zero, List.getElem?_cons_succ]); try exact rfl
              case hs122 => kernel_rfl
              case hf122 => kernel_rfl
              case hr122 => kernel_rfl
              case hQ122 => exact fun _ _ _ h => h
              case hS122 => assumption
              case hy122 => refine Or.inl ⟨by rfl, ?_⟩; intro w hSw; (try dsimp only at hSw); go_simp; (try with_reducible rfl)
              simp only [Act.put, List.setIfInBounds_toArray, List.set_cons_zero, List.set_cons_succ]
              refine wpAnyH_take (i := 22) (oi := ?oi123) (v := ?v123) ?hi123 ?hs123 ?hf123 ?hr123 ?hQ123 ?hy123 ?hS123 ?hrest123
              case hi123 => (conv => lhs; simp only [List.getElem?_toArray, List.getElem?_cons_zero, List.getElem?_cons_succ]); try exact rfl
              case hs123 => kernel_rfl
              case hf123 => kernel_rfl
              case hr123 => kernel_rfl
              case hQ123 => exact fun _ _ _ h => h
              case hS123 => assumption
              case hy123 => refine Or.inl ⟨by rfl, ?_⟩; intro w hSw; (try dsimp only at hSw); go_simp; (try with_reducible rfl)
              simp only [Act.put, List.setIfInBounds_toArray, List.set_cons_zero, List.set_cons_succ]
              refine wpAnyH_take (i := 23) (oi := ?oi124) (v := ?v124) ?hi124 ?hs124 ?hf124 ?hr124 ?hQ124 ?hy124 ?hS124 ?hrest124
              case hi124 => (conv => lhs; simp only [List.getElem?_toArray, List.getElem?_cons_zero, List.getElem?_cons_succ]); try exact rfl
              case hs124 => kernel_rfl
              case hf124 => kernel_rfl
              case hr124 => kernel_rfl
              case hQ124 => exact fun _ _ _ h => h
              case hS124 => assumption
              case hy124 => refine Or.inl ⟨by rfl, ?_⟩; intro w hSw; (try dsimp only at hSw); go_simp; (try with_reducible rfl)
              simp only [Act.put, List.setIfInBounds_toArray, List.set_cons_zero, List.set_cons_succ]
              refine wpAnyH_take (i := 24) (oi := ?oi125) (v := ?v125) ?hi125 ?hs125 ?hf125 ?hr125 ?hQ125 ?hy125 ?hS125 ?hrest125
              case hi125 => (conv => lhs; simp only [List.getElem?_toArray, List.getElem?_cons_zero, List.getElem?_cons_succ]); try exact rfl
              case hs125 => kernel_rfl
              case hf125 => kernel_rfl
              case hr125 => kernel_rfl
              case hQ125 => exact fun _ _ _ h => h
              case hS125 => assumption
              case hy125 => refine Or.inl ⟨by rfl, ?_⟩; intro w hSw; (try dsimp only at hSw); go_simp; (try with_reducible rfl)
              simp only [Act.put, List.setIfInBounds_toArray, List.set_cons_zero, List.set_cons_succ]
              refine wpAnyH_take (i := 25) (oi := ?oi126) (v := ?v126) ?hi126 ?hs126 ?hf126 ?hr126 ?hQ126 ?hy126 ?hS126 ?hrest126
              case hi126 => (conv => lhs; simp only [List.getElem?_toArray, List.getElem?_cons_zero, List.getElem?_cons_succ]); try exact rfl
              case hs126 => kernel_rfl
              case hf126 => kernel_rfl
              case hr126 => kernel_rfl
              case hQ126 => exact fun _ _ _ h => h
              case hS126 => assumption
              case hy126 => refine Or.inl ⟨by rfl, ?_⟩; intro w hSw; (try dsimp only at hSw); go_simp; (try with_reducible rfl)
              simp only [Act.put, List.setIfInBounds_toArray, List.set_cons_zero, List.set_cons_succ]
              refine wpAnyH_take (i := 26) (oi := ?oi127) (v := ?v127) ?hi127 ?hs127 ?hf127 ?hr127 ?hQ127 ?hy127 ?hS127 ?hrest127
              case hi127 => (conv => lhs; simp only [List.getElem?_toArray, List.getElem?_cons_zero, List.getElem?_cons_succ]); try exact rfl
              case hs127 => kernel_rfl
              case hf127 => kernel_rfl
              case hr127 => kernel_rfl
              case hQ127 => exact fun _ _ _ h => h
              case hS127 => assumption
              case hy127 => refine Or.inl ⟨by rfl, ?_⟩; intro w hSw; (try dsimp only at hSw); go_simp; (try with_reducible rfl)
              simp only [Act.put, List.setIfInBounds_toArray, List.set_cons_zero, List.set_cons_succ]
              refine wpAnyH_take (i := 27) (oi := ?oi128) (v := ?v128) ?hi128 ?hs128 ?hf128 ?hr128 ?hQ128 ?hy128 ?hS128 ?hrest128
              case hi128 => (conv => lhs; simp only [List.getElem?_toArray, List.getElem?_cons_zero, List.getElem?_cons_succ]); try exact rfl
              case hs128 => kernel_rfl
              case hf128 => kernel_rfl
              case hr128 => kernel_rfl
              case hQ128 => exact fun _ _ _ h => h
              case hS128 => assumption
              case hy128 => refine Or.inl ⟨by rfl, ?_⟩; intro w hSw; (try dsimp only at hSw); go_simp; (try with_reducible rfl)
              simp only [Act.put, List.setIfInBounds_toArray, List.set_cons_zero, List.set_cons_succ]
              refine wpAnyH_take (i := 28) (oi := ?oi129) (v := ?v129) ?hi129 ?hs129 ?hf129 ?hr129 ?hQ129 ?hy129 ?hS129 ?hrest129
              case hi129 => (conv => lhs; simp only [List.getElem?_toArray, List.getElem?_cons_zero, List.getElem?_cons_succ]); try exact rfl
              case hs129 => kernel_rfl
              case hf129 => kernel_rfl
              case hr129 => kernel_rfl
              case hQ129 => exact fun _ _ _ h => h
              case hS129 => assumption
              case hy129 => refine Or.inl ⟨by rfl, ?_⟩; intro w hSw; (try dsimp only at hSw); go_simp; (try with_reducible rfl)
              simp only [Act.put, List.setIfInBounds_toArray, List.set_cons_zero, List.set_cons_succ]
              refine wpAnyH_take (i := 29) (oi := ?oi130) (v := ?v130) ?hi130 ?hs130 ?hf130 ?hr130 ?hQ130 ?hy130 ?hS130 ?hrest130
              case hi130 => (conv => lhs; simp only [List.getElem?_toArray, List.getElem?_cons_zero, List.getElem?_cons_succ]); try exact rfl
              case hs130 => kernel_rfl
              case hf130 => kernel_rfl
              case hr130 => kernel_rfl
              case hQ130 => exact fun _ _ _ h => h
              case hS130 => assumption
              case hy130 => refine Or.inl ⟨by rfl, ?_⟩; intro w hSw; (try dsimp only at hSw); go_simp; (try with_reducible rfl)
              simp only [Act.put, List.setIfInBounds_toArray, List.set_cons_zero, List.set_cons_succ]
              refine wpAnyH_take (i := 30) (oi := ?oi131) (v := ?v131) ?hi131 ?hs131 ?hf131 ?hr131 ?hQ131 ?hy131 ?hS131 ?hrest131
              case hi131 => (conv => lhs; simp only [List.getElem?_toArray, List.getElem?_cons_zero, List.getElem?_cons_succ]); try exact rfl
              case hs131 => kernel_rfl
              case hf131 => kernel_rfl
              case hr131 => kernel_rfl
              case hQ131 => exact fun _ _ _ h => h
              case hS131 => assumption
              case hy131 => refine Or.inl ⟨by rfl, ?_⟩; intro w hSw; (try dsimp only at hSw); go_simp; (try with_reducible rfl)
              simp only [Act.put, List.setIfInBounds_toArray, List.set_cons_zero, List.set_cons_succ]
              refine wpAnyH_take (i := 31) (oi := ?oi132) (v := ?v132) ?hi132 ?hs132 ?hf132 ?hr132 ?hQ132 ?hy132 ?hS132 ?hrest132
              case hi132 => (conv => lhs; simp only [List.getElem?_toArray, List.getElem?_cons_zero, List.getElem?_cons_succ]); try exact rfl
              case hs132 => kernel_rfl
              case hf132 => kernel_rfl
              case hr132 => kernel_rfl
              case hQ132 => exact fun _ _ _ h => h
              case hS132 => assumption
              case hy132 => refine Or.inl ⟨by rfl, ?_⟩; intro w hSw; (try dsimp only at hSw); go_simp; (try with_reducible rfl)
              simp only [Act.put, List.setIfInBounds_toArray, List.set_cons_zero, List.set_cons_succ]
              refine wpAnyH_take (i := 32) (oi := ?oi133) (v := ?v133) ?hi133 ?hs133 ?hf133 ?hr133 ?hQ133 ?hy133 ?hS133 ?hrest133
              case hi133 => (conv => lhs; simp only [List.getElem?_toArray, List.getElem?_cons_zero, List.getElem?_cons_succ]); try exact rfl
              case hs133 => kernel_rfl
              case hf133 => kernel_rfl
              case hr133 => kernel_rfl
              case hQ133 => exact fun _ _ _ h => h
              case hS133 => assumption
              case hy133 => refine Or.inl ⟨by rfl, ?_⟩; intro w hSw; (try dsimp only at hSw); go_simp; (try with_reducible rfl)
              simp only [Act.put, List.setIfInBounds_toArray, List.set_cons_zero, List.set_cons_succ]
              refine wpAnyH_take (i := 33) (oi := ?oi134) (v := ?v134) ?hi134 ?hs134 ?hf134 ?hr134 ?hQ134 ?hy134 ?hS134 ?hrest134
              case hi134 => (conv => lhs; simp only [List.getElem?_toArray, List.getElem?_cons_zero, List.getElem?_cons_succ]); try exact rfl
              case hs134 => kernel_rfl
              case hf134 => kernel_rfl
              case hr134 => kernel_rfl
              case hQ134 => exact fun _ _ _ h => h
              case hS134 => assumption
              case hy134 => refine Or.inl ⟨by rfl, ?_⟩; intro w hSw; (try dsimp only at hSw); go_simp; (try with_reducible rfl)
              simp only [Act.put, List.setIfInBounds_toArray, List.set_cons_zero, List.set_cons_succ]
              refine wpAnyH_take (i := 34) (oi := ?oi135) (v := ?v135) ?hi135 ?hs135 ?hf135 ?hr135 ?hQ135 ?hy135 ?hS135 ?hrest135
              case hi135 => (conv => lhs; simp only [List.getElem?_toArray, List.getElem?_cons_zero, List.getElem?_cons_succ]); try exact rfl
              case hs135 => kernel_rfl
              case hf135 => kernel_rfl
              case hr135 => kernel_rfl
              case hQ135 => exact fun _ _ _ h => h
              case hS135 => assumption
              case hy135 => refine Or.inl ⟨by rfl, ?_⟩; intro w hSw; (try dsimp only at hSw); go_simp; (try with_reducible rfl)
              simp only [Act.put, List.setIfInBounds_toArray, List.set_cons_zero, List.set_cons_succ]
              refine wpAnyH_take (i := 35) (oi := ?oi136) (v := ?v136) ?hi136 ?hs136 ?hf136 ?hr136 ?hQ136 ?hy136 ?hS136 ?hrest136
              case hi136 => (conv => lhs; simp only [List.getElem?_toArray, List.getElem?_cons_zero, List.getElem?_cons_succ]); try exact rfl
              case hs136 => kernel_rfl
              case hf136 => kernel_rfl
              case hr136 => kernel_rfl
              case hQ136 => exact fun _ _ _ h => h
              case hS136 => assumption
              case hy136 => refine Or.inl ⟨by rfl, ?_⟩; intro w hSw; (try dsimp only at hSw); go_simp; (try with_reducible rfl)
              simp only [Act.put, List.setIfInBounds_toArray, List.set_cons_zero, List.set_cons_succ]
              refine wpAnyH_take (i := 36) (oi := ?oi137) (v := ?v137) ?hi137 ?hs137 ?hf137 ?hr137 ?hQ137 ?hy137 ?hS137 ?hrest137
              case hi137 => (conv => lhs; simp only [List.getElem?_toArray, List.getElem?_cons_zero, List.getElem?_cons_succ]); try exact rfl
              case hs137 => kernel_rfl
              case hf137 => kernel_rfl
              case hr137 => kernel_rfl
              case hQ137 => exact fun _ _ _ h => h
              case hS137 => assumption
              case hy137 => refine Or.inl ⟨by rfl, ?_⟩; intro w hSw; (try dsimp only at hSw); go_simp; (try with_reducible rfl)
              simp only [Act.put, List.setIfInBounds_toArray, List.set_cons_zero, List.set_cons_succ]
              refine wpAnyH_take (i := 37) (oi := ?oi138) (v := undef) ?hi138 ?hs138 ?hf138 ?hr138 ?hQ138 ?hy138 ?hS138 ?hrest138
              case hi138 => (conv => lhs; simp only [List.getElem?_toArray, List.getElem?_cons_zero, List.getElem?_cons_succ]); try exact rfl
              case hs138 => kernel_rfl
              case hf138 => kernel_rfl
              case hr138 => kernel_rfl
              case hQ138 => exact fun _ _ _ h => h
              case hS138 => assumption
              case hy138 => exact Or.inr ⟨by rfl, rfl⟩
              simp only [Act.put, List.setIfInBounds_toArray, List.set_cons_zero, List.set_cons_succ]
              refine wpAnyH_take (i := 38) (oi := ?oi139) (v := undef) ?hi139 ?hs139 ?hf139 ?hr139 ?hQ139 ?hy139 ?hS139 ?hrest139
              case hi139 => (conv => lhs; simp only [List.getElem?_toArray, List.getElem?_cons_zero, List.getElem?_cons_succ]); try exact rfl
              case hs139 => kernel_rfl
              case hf139 => kernel_rfl
              case hr139 => kernel_rfl
              case hQ139 => exact fun _ _ _ h => h
              case hS139 => assumption
              case hy139 => exact Or.inr ⟨by rfl, rfl⟩
              simp only [Act.put, List.setIfInBounds_toArray, List.set_cons_zero, List.set_cons_succ]
              refine wpAnyH_take (i := 39) (oi := ?oi140) (v := undef) ?hi140 ?hs140 ?hf140 ?hr140 ?hQ140 ?hy140 ?hS140 ?hrest140
              case hi140 => (conv => lhs; simp only [List.getElem?_toArray, List.getElem?_cons_zero, List.getElem?_cons_succ]); try exact rfl
              case hs140 => kernel_rfl
              case hf140 => kernel_rfl
              case hr140 => kernel_rfl
              case hQ140 => exact fun _ _ _ h => h
              case hS140 => assumption
              case hy140 => exact Or.inr ⟨by rfl, rfl⟩
              simp only [Act.put, List.setIfInBounds_toArray, List.set_cons_zero, List.set_cons_succ]
              refine wpAnyH_take (i := 40) (oi := ?oi141) (v := ?v141) ?hi141 ?hs141 ?hf141 ?hr141 ?hQ141 ?hy141 ?hS141 ?hrest141
              case hi141 => (conv => lhs; simp only [List.getElem?_toArray, List.getElem?_cons_zero, List.getElem?_cons_succ]); try exact rfl
              case hs141 => kernel_rfl
              case hf141 => kernel_rfl
              case hr141 => kernel_rfl
              case hQ141 => exact fun _ _ _ h => h
              case hS141 => assumption
              case hy141 => refine Or.inl ⟨by rfl, ?_⟩; intro w hSw; (try dsimp only at hSw); go_simp; (try with_reducible rfl)
              simp only [Act.put, List.setIfInBounds_toArray, List.set_cons_zero, List.set_cons_succ]
              refine wpAnyH_take (i := 41) (oi := ?oi142) (v := ?v142) ?hi142 ?hs142 ?hf142 ?hr142 ?hQ142 ?hy142 ?hS142 ?hrest142
              case hi142 => (conv => lhs; simp only [List.getElem?_toArray, List.getElem?_cons_zero, List.getElem?_cons_succ]); try exact rfl
              case hs142 => kernel_rfl
              case hf142 => kernel_rfl
              case hr142 => kernel_rfl
              case hQ142 => exact fun _ _ _ h => h
              case hS142 => assumption
              case hy142 => refine Or.inl ⟨by rfl, ?_⟩; intro w hSw; (try dsimp only at hSw); go_simp; (try with_reducible rfl)
              simp only [Act.put, List.setIfInBounds_toArray, List.set_cons_zero, List.set_cons_succ]
              refine wpAnyH_take (i := 42) (oi := ?oi143) (v := ?v143) ?hi143 ?hs143 ?hf143 ?hr143 ?hQ143 ?hy143 ?hS143 ?hrest143
              case hi143 => (conv => lhs; simp only [List.getElem?_toArray, List.getElem?_cons_zero, List.getElem?_cons_succ]); try exact rfl
              case hs143 => kernel_rfl
              case hf143 => kernel_rfl
              case hr143 => kernel_rfl
              case hQ143 => exact fun _ _ _ h => h
              case hS143 => assumption
              case hy143 => refine Or.inl ⟨by rfl, ?_⟩; intro w hSw; (try dsimp only at hSw); go_simp; (try with_reducible rfl)
              simp only [Act.put, List.setIfInBounds_toArray, List.set_cons_zero, List.set_cons_succ]
              refine wpAnyH_done (by kernel_rfl) ?_ _
              go_wp2
              go_ret
              exact ⟨rfl, belN B2 (by first | exact belN C16.drew hb20 | exact belN (below_drewN C16 _) hb20 | exact belN (below_drewN C16 _).drew hb20)⟩
        · have hz := hM0 h6
          have hmz := hm0 h6
          have q9 : ¬ ((k : Int) < (M.length : Int)) := by omega
          subst hmz
          rw [hz] at q9 hlt ⊢
          obtain ⟨N, hN⟩ : ∃ N, L.length = N := ⟨_, rfl⟩
          rw [hN] at h6 ⊢
          have n6 : ((N : Int) == 6) = false := by simp; omega
          go_wp2
          go_ret
          exact ⟨rfl, belN B2 Cr⟩

end Go.Proofs.Ytgbgfgkgkbnflaa
