/- The law of pages: the walk. -/
import Derived.Test.YtlnjgpekgnkakaaPgLaw3
import Derived.Test.YtlnjgpekgnkakaaPgDrp
namespace Go.Proofs.Ytlnjgpekgnkakaa
open Go Go.RowKit

theorem cell4 {w : World} {g : Nat} {a : Addr} {u v0 v1 v2 v3 : Value} (h : w.cell? a = some u) (hne : a.block ≠ g) :
    ((((w.setCell ⟨g, 0, none⟩ v0).setCell ⟨g, 1, none⟩ v1).setCell ⟨g, 2, none⟩ v2).setCell ⟨g, 3, none⟩ v3).cell? a = some u := by
  have hn : ∀ k, (⟨g, k, none⟩ : Addr) ≠ a := fun k e => hne (by rw [← e])
  exact cellS (cellS (cellS (cellS h (hn 0)) (hn 1)) (hn 2)) (hn 3)

set_option maxHeartbeats 400000 in
theorem big_any (A : Option Addr) (n cp : Nat) (w : World) :
    Calls Try.prog 4 #[.slice A n cp] w fun e w' => e = .returned (.bool (decide (1048576 < n))) ∧ Below w.heap.size w w' := by
  by_cases h : 1048576 < n
  · have h1 : (n : Int) > 1048576 := by omega
    have hd : decide (1048576 < n) = true := by simpa using h
    have Hd := Lib.hid hd
    go_enter Try.func4, Try.ntmps4
    go_wp2
    go_ret
    exact ⟨by first | rfl | (rw [Hd.out]; rfl), bel0 w⟩
  · have h1 : ¬ ((n : Int) > 1048576) := by omega
    have hd : decide (1048576 < n) = false := by simpa using h
    have Hd := Lib.hid hd
    go_enter Try.func4, Try.ntmps4
    go_wp2
    go_ret
    exact ⟨by first | rfl | (rw [Hd.out]; rfl), bel0 w⟩

set_option maxRecDepth 100000 in
set_option maxHeartbeats 2000000 in
theorem at_any (A : Option Addr) (n cp : Nat) (bs : List UInt8) (hn : n ≤ 1048576) (i : Nat) (hi : i ≤ 1000) (w : World) (hr : Reads w w.heap.size 1 A n (B8 bs)) :
    Calls Try.prog 5 #[.slice A n cp, .int .i64 i] w fun e w' => ∃ x : Int, e = .returned (.int .i64 x) ∧ 0 ≤ x ∧ x ≤ 255 ∧ w' = w := by
  by_cases hlt : i < n
  · have hI : (i : Int) < (n : Int) := by omega
    have q0 : (0 : Int) ≤ (i : Int) := by omega
    obtain ⟨b, ad, rfl, z0⟩ : ∃ (b : UInt8) (ad : Addr), A = some ad ∧ w.cell? (ad.add i) = some (.int .u8 b.toNat) := by
      obtain ⟨ad, hA, _, hc⟩ := hr.2 (by omega)
      have hlen : i < bs.length := by have := hr.1; simp [B8] at this; omega
      exact ⟨bs[i], ad, hA, hc i _ (by simp [B8, hlen])⟩
    have hb := b.toNat_lt
    go_enter Try.func5, Try.ntmps5
    go_wp2
    go_ret
    exact ⟨_, rfl, by (try rw [IntKind.wrap_i64]); omega, by (try rw [IntKind.wrap_i64]); omega, rfl⟩
  · have hI : ¬ ((i : Int) < (n : Int)) := by omega
    have w1 : IntKind.i64.wrap ((i : Int) * 37) = (i : Int) * 37 := by rw [IntKind.wrap_i64]; omega
    have w2 : IntKind.i64.wrap ((n : Int) * 11) = (n : Int) * 11 := by rw [IntKind.wrap_i64]; omega
    have w3 : IntKind.i64.wrap ((i : Int) * 37 + (n : Int) * 11) = (i : Int) * 37 + (n : Int) * 11 := by rw [IntKind.wrap_i64]; omega
    have mt : ((i : Int) * 37 + (n : Int) * 11).tmod 256 = ((i : Int) * 37 + (n : Int) * 11) % 256 := by rw [Int.tmod_eq_emod_of_nonneg (by omega)]
    go_enter Try.func5, Try.ntmps5
    go_wp2
    go_ret
    exact ⟨_, rfl, by omega, by omega, rfl⟩

set_option maxRecDepth 100000 in
set_option maxHeartbeats 16000000 in
theorem law_fnPages (A : Option Addr) (n cp : Nat) (bs : List UInt8) (w : World) (hr : Reads w w.heap.size 1 A n (B8 bs)) :
    Calls Try.prog 3 #[.slice A n cp] w fun e w' => e = .returned (.bool true) ∧ Below w.heap.size w w' := by
  have Hc := Lib.hid (fun W (hb : Below w.heap.size w W) => (hr.below hb).more hb.size)
  clear hr
  by_cases hbig : 1048576 < n
  · have Hd := Lib.hid (show decide (1048576 < n) = true by simpa using hbig)
    go_enter Try.func3, Try.ntmps3
    go_wp2_with fail
    refine (big_any A n cp w).mono ?_
    rintro e w1 ⟨rfl, hb1⟩
    rw [Hd.out]
    go_wp2
    go_ret
    exact ⟨rfl, hb1⟩
  have Hd := Lib.hid (show decide (1048576 < n) = false by simpa using hbig)
  have hn6 : n ≤ 1048576 := by omega
  clear hbig
  go_enter Try.func3, Try.ntmps3
  go_wp2_with fail
  refine (big_any A n cp w).mono ?_
  rintro e w1 ⟨rfl, hb1⟩
  rw [Hd.out]
  clear Hd
  have own0 := World.ownsRow_lit (e := 28) (size := 4) (w1.alloc (.cells #[] 25)) #[] 0 (Nat.le_refl _) (by unfold maxLen; omega) rfl
  have hs1 : (w1.alloc (.cells #[] 25)).heap.size = w1.heap.size + 1 := World.size_alloc _ _
  rw [hs1] at own0
  have Own0 := Lib.hid (own_more own0 (show w.heap.size ≤ w1.heap.size + 1 by have := hb1.size; omega))
  have B0 := Lib.hid (belA (belA hb1 (.cells #[] 25)) (.cells #[] 28))
  have FR0 := Lib.hid (show PgFr ((w1.alloc (.cells #[] 25)).alloc (.cells #[] 28)) 0 (some ⟨w1.heap.size, 0, none⟩) 0 [] from ⟨[], ⟨rfl, fun h => absurd h (by omega)⟩, rfl, fun _ _ => Nat.zero_le _, fun i hi => by simp at hi⟩)
  clear own0 hs1 hb1
  go_wp2
  go_loopw [3, 4, 5] (fun v u t wr => ∃ (A3 : Option Addr) (m3 c3 i : Nat) (ps : List (List EntD)) (W : List EntD), v = .slice A3 m3 c3 ∧ t = .int .i64 i ∧ i ≤ 40 ∧ W.length ≤ i ∧ Hid (PgFr wr 0 A3 m3 ps) ∧ Hid (Inv ps W) ∧ Hid (wr.ownsRow w.heap.size 28 4 u W.length (ES W)) ∧ Hid (Below w.heap.size w wr)) (fun _ _ t _ => 40 - (intOf t).toNat)
  case atStart => exact ⟨_, 0, 0, 0, [], [], rfl, rfl, by omega, by simp, FR0.out, inv_nil, Own0.out, B0.out⟩
  case round =>
    clear FR0 Own0 B0
    obtain ⟨A3, m3, c3, i, ps, W, rfl, rfl, hi, hWi, FR, INV, Own, BW⟩ := hrel
    rename World => w3
    by_cases hlt : i < 40
    · have q40 : (i : Int) < 40 := by omega
      obtain ⟨Au, cu, rfl, hcu, _, hrw⟩ := own_vals Own.out
      obtain ⟨i1, hi1⟩ : ∃ k, k = i + 1 := ⟨_, rfl⟩
      obtain ⟨i2, hi2⟩ : ∃ k, k = i + 2 := ⟨_, rfl⟩
      have wi1 : IntKind.i64.wrap ((i : Int) + 1) = (i1 : Int) := by rw [IntKind.wrap_i64]; omega
      have wi2 : IntKind.i64.wrap ((i : Int) + 2) = (i2 : Int) := by rw [IntKind.wrap_i64]; omega
      have b1 : i1 ≤ 1000 := by omega
      have b2 : i2 ≤ 1000 := by omega
      have Hi1 := Lib.hid hi1
      clear hi1 hi2
      go_wp2_with fail
      refine (at_any A n cp bs hn6 i (by omega) w3 (Hc.out _ BW.out)).mono ?_
      rintro e w' ⟨x1, rfl, x10, x11, rfl⟩
      have mt1 : x1.tmod 7 = x1 % 7 := Int.tmod_eq_emod_of_nonneg x10
      obtain ⟨H, hH⟩ : ∃ H, x1 % 7 = H := ⟨_, rfl⟩
      rw [hH] at mt1
      clear hH
      go_wp2_with fail
      refine (at_any A n cp bs hn6 i1 b1 w' (Hc.out _ BW.out)).mono ?_
      rintro e w' ⟨x2, rfl, x20, x21, rfl⟩
      have mt2 : x2.tmod 4 = x2 % 4 := Int.tmod_eq_emod_of_nonneg x20
      obtain ⟨K, hK⟩ : ∃ K, x2 % 4 = K := ⟨_, rfl⟩
      rw [hK] at mt2
      clear hK
      go_wp2
      go_loopw [8, 9] (fun r t wr => ∃ (R : Int) (j : Nat), r = .int .i64 R ∧ t = .int .i64 j ∧ j ≤ W.length ∧ -1 ≤ R ∧ R ≤ 1000 ∧ Hid (HereR W H K j R) ∧ wr = w') (fun _ t _ => W.length - (intOf t).toNat)
      case atStart => exact ⟨-1, 0, rfl, rfl, by omega, by omega, by omega, .inl ⟨rfl, fun i _ h => by omega⟩, rfl⟩
      case round =>
        obtain ⟨R, j, rfl, rfl, hj, R0, R1, HR, rfl⟩ := hrel
        by_cases hjl : j < W.length
        · obtain ⟨hk0, b, o, rfl, _, z0, z1, _, _⟩ := reads_ent hrw hjl
          have q0 : (0 : Int) ≤ (j : Int) := by omega
          have q1 : (j : Int) < (W.length : Int) := by omega
          obtain ⟨eh, heh⟩ : ∃ x, W[j].h = x := ⟨_, rfl⟩
          obtain ⟨ei, hei⟩ : ∃ x, W[j].i = x := ⟨_, rfl⟩
          rw [heh] at z0
          rw [hei] at z1
          have HK := Lib.hid (show keyB H K W[j] ↔ eh = H ∧ ei = K by unfold keyB; rw [heh, hei])
          clear heh hei
          cases e1 : (eh == H)
          all_goals
            cases e2 : (ei == K)
          case' true.true =>
            have HR2 := Lib.hid (show HereR W H K (j + 1) (j : Int) from .inr ⟨j, hjl, rfl, HK.out.2 ⟨by simpa using e1, by simpa using e2⟩⟩)
            go_wp2
            first
              | exact ⟨⟨(j : Int), j + 1, by rfl, by go_num, by omega, by omega, by omega, HR2.out, by first | rfl | trivial⟩, by simp [intOf]; omega⟩
              | (go_roundw; case rel => exact ⟨(j : Int), j + 1, by rfl, by go_num, by omega, by omega, by omega, HR2.out, by first | rfl | trivial⟩; case measure => (simp [intOf]; omega))
          all_goals
            have HR2 := Lib.hid (show HereR W H K (j + 1) R from HR.out.elim (fun h => .inl ⟨h.1, fun i hi hij hk => by
              by_cases e : i = j
              · rcases HK.out.1 (by subst e; exact hk) with ⟨h1, h2⟩
                exfalso
                first
                  | (rw [h1] at e1; simp at e1; done)
                  | (rw [h2] at e2; simp at e2; done)
              · exact h.2 i hi (by omega) hk⟩) .inr)
            go_wp2
            first
              | exact ⟨⟨R, j + 1, by rfl, by go_num, by omega, by omega, by omega, HR2.out, by first | rfl | trivial⟩, by simp [intOf]; omega⟩
              | (go_roundw; case rel => exact ⟨R, j + 1, by rfl, by go_num, by omega, by omega, by omega, HR2.out, by first | rfl | trivial⟩; case measure => (simp [intOf]; omega))
        · obtain rfl : j = W.length := by omega
          have q9 : ¬ ((W.length : Int) < (W.length : Int)) := by omega
          go_wp2_with fail
          refine (at_any A n cp bs hn6 i2 b2 _ (Hc.out _ BW.out)).mono ?_
          rintro e w4 ⟨x3, rfl, x30, x31, rfl⟩
          have mt3 : x3.tmod 3 = x3 % 3 := Int.tmod_eq_emod_of_nonneg x30
          have hok := okPB_iff.2 INV.out.1
          clear mt1 mt2 wi1 wi2 hrw hlt
          go_upto_if 65 with fail
          go_cut [3, 4] from 24 to 209 (fun s3 s4 wx => ∃ (A5 : Option Addr) (m5 c5 : Nat) (ps' : List (List EntD)) (Wx : List EntD) (Ax : Option Addr) (cx : Nat), s3 = .slice A5 m5 c5 ∧ s4 = .slice Ax Wx.length cx ∧ Wx.length ≤ i + 1 ∧ Hid (PgFr wx 0 A5 m5 ps') ∧ Hid (Inv ps' Wx) ∧ Hid (wx.ownsRow w.heap.size 28 4 (.slice Ax Wx.length cx) Wx.length (ES Wx)) ∧ Hid (Below w.heap.size w wx))
          case rest => as_aux_lemma =>
            clear FR INV Own BW HR mt3 hok
            obtain ⟨A5, m5, c5, ps', W, Au, cu, rfl, rfl, hW5, FR5, INV5, Own5, BW5⟩ := hcut
            go_wp2_with fail
            have hok5 := okPB_iff.2 INV5.out.1
            obtain ⟨h8, hz4, hz⟩ := ok_small hok5
            have hl5 := FR5.out.at_.len
            have hm5 : m5 ≤ 10000000 := by omega
            have HM := Lib.hid (show ∀ (j : Nat) (h : j < W.length), fndP ps' W[j].h W[j].i = (W[j], true) from fun j h => fnd_mem INV5.out.1 ((INV5.out.2.mem_iff).1 (List.getElem_mem h)))
            refine (pagesOk_spec A5 m5 c5 ps' hz hm5 _ FR5.out.at_).mono ?_
            rintro e w6 ⟨rfl, hb6⟩
            rw [hok5]
            have FR6 := Lib.hid (FR5.out.bl hb6)
            have Own6 := Lib.hid (own_below Own5.out hb6 (Nat.le_refl _))
            have BW6 := Lib.hid (belN BW5.out hb6)
            clear hb6
            go_wp2_with fail
            refine (pgList_impl A5 m5 c5 ps' hz hm5 _ FR6.out.at_).mono ?_
            rintro e w8 ⟨v8, rfl, own8, hb8⟩
            rw [pgL_yes hok5] at own8
            have FR8 := Lib.hid (FR6.out.bl hb8)
            have Own8 := Lib.hid (own_below Own6.out hb8 (Nat.le_refl _))
            have BW8 := Lib.hid (belN BW6.out hb8)
            have hWF := inv_len INV5.out
            have HO8 := Lib.hid INV5.out.1.2.2
            obtain ⟨F, hF⟩ : ∃ F, ps'.flatten = F := ⟨_, rfl⟩
            rw [hF] at own8 hWF HO8
            obtain ⟨Al, cl, rfl, _, _, hrl⟩ := own_vals own8
            obtain ⟨Av, cv, hv, _, _, hru⟩ := own_vals Own8.out
            simp only [Value.slice.injEq, true_and] at hv
            obtain ⟨rfl, rfl⟩ := hv
            rw [← hWF] at hrl ⊢
            have Hz := Lib.hid hz
            have HWF := Lib.hid hWF
            have Hrl := Lib.hid hrl
            have Hru := Lib.hid hru
            clear own8 hb8 hrl hru hF hWF hz hz4 hok5 hl5 h8
            go_wp2
            go_loopw [16] (fun t wr => ∃ j : Nat, t = .int .i64 j ∧ j ≤ W.length ∧ Below w8.heap.size w8 wr) (fun t _ => W.length - (intOf t).toNat)
            case atStart => exact ⟨0, rfl, by omega, bel0 _⟩
            case round =>
              obtain ⟨j, rfl, hj, hbel⟩ := hrel
              by_cases hjl : j < W.length
              · obtain ⟨hk0, b, o, rfl, hbl, z0, z1, z2, z3⟩ := reads_ent ((Hru.out.below hbel).more hbel.size) hjl
                have hm := HM.out j hjl
                obtain ⟨ej, hej⟩ : ∃ e, W[j] = e := ⟨_, rfl⟩
                rw [hej] at z0 z1 z2 z3 hm
                have Hm := Lib.hid hm
                have Hej := Lib.hid hej
                have q0 : (0 : Int) ≤ (j : Int) := by omega
                have q1 : (j : Int) < (W.length : Int) := by omega
                have FRr := Lib.hid (FR8.out.bl hbel)
                clear hm hej
                go_wp2_with fail
                refine wp_region_held_drew (S := fun w' => w'.cell? ⟨b, o + j * 4, none⟩ = some (.int .i64 ej.h) ∧ w'.cell? ⟨b, o + j * 4 + 1, none⟩ = some (.int .i64 ej.i)) (by kernel_rfl) ⟨z0, z1⟩ (fun hHeld => ?_)
                refine wpAnyH_take (i := 0) (oi := ?oi1001) (v := ?v1001) ?hi1001 ?hs1001 ?hf1001 ?hr1001 ?hQ1001 ?hy1001 ?hS1001 ?hrest1001
                case hi1001 => (conv => lhs; simp only [List.getElem?_toArray, List.getElem?_cons_zero]); try exact rfl
                case hs1001 => kernel_rfl
                case hf1001 => kernel_rfl
                case hr1001 => kernel_rfl
                case hQ1001 => exact fun _ _ _ h => h
                case hS1001 => assumption
                case hy1001 => refine Or.inl ⟨by rfl, ?_⟩; intro w hSw; (try dsimp only at hSw); go_simp; (try with_reducible rfl)
                simp only [Act.put, List.setIfInBounds_toArray, List.set_cons_zero, List.set_cons_succ]
                refine wpAnyH_take (i := 1) (oi := ?oi1002) (v := ?v1002) ?hi1002 ?hs1002 ?hf1002 ?hr1002 ?hQ1002 ?hy1002 ?hS1002 ?hrest1002
                case hi1002 => (conv => lhs; simp only [List.getElem?_toArray, List.getElem?_cons_zero, List.getElem?_cons_succ]); try exact rfl
                case hs1002 => kernel_rfl
                case hf1002 => kernel_rfl
                case hr1002 => kernel_rfl
                case hQ1002 => exact fun _ _ _ h => h
                case hS1002 => assumption
                case hy1002 => refine Or.inl ⟨by rfl, ?_⟩; intro w hSw; (try dsimp only at hSw); go_simp; (try with_reducible rfl)
                simp only [Act.put, List.setIfInBounds_toArray, List.set_cons_zero, List.set_cons_succ]
                refine wpAnyH_take (i := 2) (oi := ?oi1003) (v := ?v1003) ?hi1003 ?hs1003 ?hf1003 ?hr1003 ?hQ1003 ?hy1003 ?hS1003 ?hrest1003
                case hi1003 => (conv => lhs; simp only [List.getElem?_toArray, List.getElem?_cons_zero, List.getElem?_cons_succ]); try exact rfl
                case hs1003 => kernel_rfl
                case hf1003 => kernel_rfl
                case hr1003 => kernel_rfl
                case hQ1003 => exact fun _ _ _ h => h
                case hS1003 => assumption
                case hy1003 => refine Or.inl ⟨by rfl, ?_⟩; intro w hSw; (try dsimp only at hSw); go_simp; (try with_reducible rfl)
                simp only [Act.put, List.setIfInBounds_toArray, List.set_cons_zero, List.set_cons_succ]
                refine wpAnyH_take (i := 3) (oi := ?oi1004) (v := ?v1004) ?hi1004 ?hs1004 ?hf1004 ?hr1004 ?hQ1004 ?hy1004 ?hS1004 ?hrest1004
                case hi1004 => (conv => lhs; simp only [List.getElem?_toArray, List.getElem?_cons_zero, List.getElem?_cons_succ]); try exact rfl
                case hs1004 => kernel_rfl
                case hf1004 => kernel_rfl
                case hr1004 => kernel_rfl
                case hQ1004 => exact fun _ _ _ h => h
                case hS1004 => assumption
                case hy1004 => refine Or.inl ⟨by rfl, ?_⟩; intro w hSw; (try dsimp only at hSw); go_simp; (try with_reducible rfl)
                simp only [Act.put, List.setIfInBounds_toArray, List.set_cons_zero, List.set_cons_succ]
                refine wpAnyH_take (i := 4) (oi := ?oi1005) (v := ?v1005) ?hi1005 ?hs1005 ?hf1005 ?hr1005 ?hQ1005 ?hy1005 ?hS1005 ?hrest1005
                case hi1005 => (conv => lhs; simp only [List.getElem?_toArray, List.getElem?_cons_zero, List.getElem?_cons_succ]); try exact rfl
                case hs1005 => kernel_rfl
                case hf1005 => kernel_rfl
                case hr1005 => kernel_rfl
                case hQ1005 => exact fun _ _ _ h => h
                case hS1005 => assumption
                case hy1005 => refine Or.inl ⟨by rfl, ?_⟩; intro w hSw; (try dsimp only at hSw); go_simp; (try with_reducible rfl)
                simp only [Act.put, List.setIfInBounds_toArray, List.set_cons_zero, List.set_cons_succ]
                refine wpAnyH_take (i := 5) (oi := ?oi1006) (v := ?v1006) ?hi1006 ?hs1006 ?hf1006 ?hr1006 ?hQ1006 ?hy1006 ?hS1006 ?hrest1006
                case hi1006 => (conv => lhs; simp only [List.getElem?_toArray, List.getElem?_cons_zero, List.getElem?_cons_succ]); try exact rfl
                case hs1006 => kernel_rfl
                case hf1006 => kernel_rfl
                case hr1006 => kernel_rfl
                case hQ1006 => exact fun _ _ _ h => h
                case hS1006 => assumption
                case hy1006 => refine Or.inl ⟨by rfl, ?_⟩; intro w hSw; (try dsimp only at hSw); go_simp; (try with_reducible rfl)
                simp only [Act.put, List.setIfInBounds_toArray, List.set_cons_zero, List.set_cons_succ]
                refine wpAnyH_take (i := 6) (oi := ?oi1007) (v := ?v1007) ?hi1007 ?hs1007 ?hf1007 ?hr1007 ?hQ1007 ?hy1007 ?hS1007 ?hrest1007
                case hi1007 => (conv => lhs; simp only [List.getElem?_toArray, List.getElem?_cons_zero, List.getElem?_cons_succ]); try exact rfl
                case hs1007 => kernel_rfl
                case hf1007 => kernel_rfl
                case hr1007 => kernel_rfl
                case hQ1007 => exact fun _ _ _ h => h
                case hS1007 => assumption
                case hy1007 => refine Or.inl ⟨by rfl, ?_⟩; intro w hSw; (try dsimp only at hSw); go_simp; (try with_reducible rfl)
                simp only [Act.put, List.setIfInBounds_toArray, List.set_cons_zero, List.set_cons_succ]
                refine wpAnyH_take (i := 7) (oi := ?oi1008) (v := ?v1008) ?hi1008 ?hs1008 ?hf1008 ?hr1008 ?hQ1008 ?hy1008 ?hS1008 ?hrest1008
                case hi1008 => (conv => lhs; simp only [List.getElem?_toArray, List.getElem?_cons_zero, List.getElem?_cons_succ]); try exact rfl
                case hs1008 => kernel_rfl
                case hf1008 => kernel_rfl
                case hr1008 => kernel_rfl
                case hQ1008 => exact fun _ _ _ h => h
                case hS1008 => assumption
                case hy1008 => refine Or.inl ⟨by rfl, ?_⟩; intro w hSw; (try dsimp only at hSw); go_simp; (try with_reducible rfl)
                simp only [Act.put, List.setIfInBounds_toArray, List.set_cons_zero, List.set_cons_succ]
                refine wpAnyH_take (i := 8) (oi := ?oi1009) (v := ?v1009) ?hi1009 ?hs1009 ?hf1009 ?hr1009 ?hQ1009 ?hy1009 ?hS1009 ?hrest1009
                case hi1009 => (conv => lhs; simp only [List.getElem?_toArray, List.getElem?_cons_zero, List.getElem?_cons_succ]); try exact rfl
                case hs1009 => kernel_rfl
                case hf1009 => kernel_rfl
                case hr1009 => kernel_rfl
                case hQ1009 => exact fun _ _ _ h => h
                case hS1009 => assumption
                case hy1009 => refine Or.inl ⟨by rfl, ?_⟩; intro w hSw; (try dsimp only at hSw); go_simp; (try with_reducible rfl)
                simp only [Act.put, List.setIfInBounds_toArray, List.set_cons_zero, List.set_cons_succ]
                refine wpAnyH_take (i := 9) (oi := ?oi1010) (v := ?v1010) ?hi1010 ?hs1010 ?hf1010 ?hr1010 ?hQ1010 ?hy1010 ?hS1010 ?hrest1010
                case hi1010 => (conv => lhs; simp only [List.getElem?_toArray, List.getElem?_cons_zero, List.getElem?_cons_succ]); try exact rfl
                case hs1010 => kernel_rfl
                case hf1010 => kernel_rfl
                case hr1010 => kernel_rfl
                case hQ1010 => exact fun _ _ _ h => h
                case hS1010 => assumption
                case hy1010 => refine Or.inl ⟨by rfl, ?_⟩; intro w hSw; (try dsimp only at hSw); go_simp; (try with_reducible rfl)
                simp only [Act.put, List.setIfInBounds_toArray, List.set_cons_zero, List.set_cons_succ]
                refine wpAnyH_take (i := 10) (oi := ?oi1011) (v := ?v1011) ?hi1011 ?hs1011 ?hf1011 ?hr1011 ?hQ1011 ?hy1011 ?hS1011 ?hrest1011
                case hi1011 => (conv => lhs; simp only [List.getElem?_toArray, List.getElem?_cons_zero, List.getElem?_cons_succ]); try exact rfl
                case hs1011 => kernel_rfl
                case hf1011 => kernel_rfl
                case hr1011 => kernel_rfl
                case hQ1011 => exact fun _ _ _ h => h
                case hS1011 => assumption
                case hy1011 => refine Or.inl ⟨by rfl, ?_⟩; intro w hSw; (try dsimp only at hSw); go_simp; (try with_reducible rfl)
                simp only [Act.put, List.setIfInBounds_toArray, List.set_cons_zero, List.set_cons_succ]
                refine wpAnyH_ready (rs := [11, 15]) (by kernel_rfl) (by simp) ?_
                refine AllReadyH.cons (o := ?oi1012) ?hi1012 (fun K hK => ?_) (AllReadyH.cons (o := ?oi1013) ?hi1013 (fun K hK => ?_) AllReadyH.nil)
                case hi1012 => first | exact rfl | ((conv => lhs; simp only [List.getElem?_toArray, List.getElem?_cons_zero, List.getElem?_cons_succ]); try exact rfl)
                case hi1013 => first | exact rfl | ((conv => lhs; simp only [List.getElem?_toArray, List.getElem?_cons_zero, List.getElem?_cons_succ]); try exact rfl)
                · go_simp
                  go_at_call 10
                  refine (pgFind_impl A5 m5 c5 ps' ej.h ej.i Hz.out hm5 wr.drew (FRr.out.bl (bel0 _).drew).at_).mono ?_
                  rintro e w10 ⟨rfl, hb10⟩
                  rw [Hm.out]
                  have lw10 := hb10.size
                  have lwr := hbel.size
                  have k0 := keep1 hb10 z0 (Nat.le_refl _)
                  have k1 := keep1 hb10 z1 (Nat.le_refl _)
                  have nb : b ≠ w10.heap.size := by have : wr.drew.heap.size = wr.heap.size := rfl; omega
                  have k0A : (w10.alloc (.cells #[.int .i64 0, .int .i64 0, .string ⟨#[]⟩, .int .i64 0] 28)).cell? ⟨b, o + j * 4, none⟩ = _ := (World.cell?_alloc_lt _ _ _ (World.block_lt_of_cell? _ _ k0)).trans k0
                  have k1A : (w10.alloc (.cells #[.int .i64 0, .int .i64 0, .string ⟨#[]⟩, .int .i64 0] 28)).cell? ⟨b, o + j * 4 + 1, none⟩ = _ := (World.cell?_alloc_lt _ _ _ (World.block_lt_of_cell? _ _ k1)).trans k1
                  have k0E : (w10.alloc (.cells #[.int .i64 ej.h, .int .i64 ej.i, .string ej.s, .int .i64 ej.d] 28)).cell? ⟨b, o + j * 4, none⟩ = _ := (World.cell?_alloc_lt _ _ _ (World.block_lt_of_cell? _ _ k0)).trans k0
                  have k1E : (w10.alloc (.cells #[.int .i64 ej.h, .int .i64 ej.i, .string ej.s, .int .i64 ej.d] 28)).cell? ⟨b, o + j * 4 + 1, none⟩ = _ := (World.cell?_alloc_lt _ _ _ (World.block_lt_of_cell? _ _ k1)).trans k1
                  refine hK.out _ _ ⟨k0, k1⟩ (fun hHeld => ?_)
                  clear hK K
                  try simp only []
                  refine wpAnyH_take (i := 12) (oi := ?oi1014) (v := ?v1014) ?hi1014 ?hs1014 ?hf1014 ?hr1014 ?hQ1014 ?hy1014 ?hS1014 ?hrest1014
                  case hi1014 => (conv => lhs; simp only [List.getElem?_toArray, List.getElem?_cons_zero, List.getElem?_cons_succ]); try exact rfl
                  case hs1014 => kernel_rfl
                  case hf1014 => kernel_rfl
                  case hr1014 => kernel_rfl
                  case hQ1014 => exact fun _ _ _ h => h
                  case hS1014 => assumption
                  case hy1014 => refine Or.inl ⟨by rfl, ?_⟩; intro w hSw; (try dsimp only at hSw); go_simp; (try with_reducible rfl)
                  simp only [Act.put, List.setIfInBounds_toArray, List.set_cons_zero, List.set_cons_succ]
                  refine wpAnyH_take (i := 13) (oi := ?oi1015) (v := ?v1015) ?hi1015 ?hs1015 ?hf1015 ?hr1015 ?hQ1015 ?hy1015 ?hS1015 ?hrest1015
                  case hi1015 => (conv => lhs; simp only [List.getElem?_toArray, List.getElem?_cons_zero, List.getElem?_cons_succ]); try exact rfl
                  case hs1015 => kernel_rfl
                  case hf1015 => kernel_rfl
                  case hr1015 => kernel_rfl
                  case hQ1015 => exact fun _ _ _ h => h
                  case hS1015 => assumption
                  case hy1015 => refine Or.inl ⟨by rfl, ?_⟩; intro w hSw; (try dsimp only at hSw); go_simp; (try with_reducible rfl)
                  simp only [Act.put, List.setIfInBounds_toArray, List.set_cons_zero, List.set_cons_succ]
                  refine wpAnyH_take (i := 14) (oi := ?oi1016) (v := ?v1016) ?hi1016 ?hs1016 ?hf1016 ?hr1016 ?hQ1016 ?hy1016 ?hS1016 ?hrest1016
                  case hi1016 => (conv => lhs; simp only [List.getElem?_toArray, List.getElem?_cons_zero, List.getElem?_cons_succ]); try exact rfl
                  case hs1016 => kernel_rfl
                  case hf1016 => kernel_rfl
                  case hr1016 => kernel_rfl
                  case hQ1016 => exact fun _ _ _ h => h
                  case hS1016 => assumption
                  case hy1016 => refine Or.inl ⟨by rfl, ?_⟩; intro w hSw; (try dsimp only at hSw); go_simp; (try with_reducible rfl)
                  simp only [Act.put, List.setIfInBounds_toArray, List.set_cons_zero, List.set_cons_succ]
                  refine wpAnyH_ready (rs := [15]) (by kernel_rfl) (by simp) ?_
                  refine AllReadyH.cons (o := ?oi1017) ?hi1017 (fun K hK => ?_) AllReadyH.nil
                  case hi1017 => (conv => lhs; simp only [List.getElem?_toArray, List.getElem?_cons_zero, List.getElem?_cons_succ]); try exact rfl
                  go_simp
                  refine hK.out _ _ ⟨k0A, k1A⟩ (fun hHeld1017 => ?_)
                  clear hK K
                  try simp only [Act.put, List.setIfInBounds_toArray, List.set_cons_zero, List.set_cons_succ]
                  refine wpAnyH_ready (rs := [16]) (by kernel_rfl) (by simp) ?_
                  refine AllReadyH.cons (o := ?oi1018) ?hi1018 (fun K hK => ?_) AllReadyH.nil
                  case hi1018 => (conv => lhs; simp only [List.getElem?_toArray, List.getElem?_cons_zero, List.getElem?_cons_succ]); try exact rfl
                  go_simp
                  refine hK.out _ _ ⟨k0E, k1E⟩ (fun hHeld1018 => ?_)
                  clear hK K
                  try simp only [Act.put, List.setIfInBounds_toArray, List.set_cons_zero, List.set_cons_succ]
                  refine wpAnyH_take (i := 17) (oi := ?oi1019) (v := ?v1019) ?hi1019 ?hs1019 ?hf1019 ?hr1019 ?hQ1019 ?hy1019 ?hS1019 ?hrest1019
                  case hi1019 => (conv => lhs; simp only [List.getElem?_toArray, List.getElem?_cons_zero, List.getElem?_cons_succ]); try exact rfl
                  case hs1019 => kernel_rfl
                  case hf1019 => kernel_rfl
                  case hr1019 => kernel_rfl
                  case hQ1019 => exact fun _ _ _ h => h
                  case hS1019 => assumption
                  case hy1019 => refine Or.inl ⟨by rfl, ?_⟩; intro w hSw; (try dsimp only at hSw); go_simp; (try with_reducible rfl)
                  simp only [Act.put, List.setIfInBounds_toArray, List.set_cons_zero, List.set_cons_succ]
                  refine wpAnyH_done (by kernel_rfl) ?_ _
                  have hOS := Blk.new' w10 28 #[.int .i64 ej.h, .int .i64 ej.i, .string ej.s, .int .i64 ej.d] w10.heap.size rfl
                  have lws : w8.heap.size ≤ w10.heap.size := by have : wr.drew.heap.size = wr.heap.size := rfl; omega
                  have hb12 := (belN hbel.drew hb10).alloc lws (.cells #[.int .i64 ej.h, .int .i64 ej.i, .string ej.s, .int .i64 ej.d] 28)
                  clear k0 k1 k0A k1A k0E k1E hb10
                  generalize (w10.alloc (.cells #[.int .i64 ej.h, .int .i64 ej.i, .string ej.s, .int .i64 ej.d] 28)) = w12 at hOS hb12 ⊢
                  have lw10 := hb12.size
                  have OS := Lib.hid hOS
                  clear hOS z0 z1 z2 z3
                  obtain ⟨_, b', o', hbo, _, z0, z1, z2, z3⟩ := reads_ent ((Hru.out.below hb12).more hb12.size) hjl
                  simp only [Option.some.injEq, Addr.mk.injEq, and_true] at hbo
                  obtain ⟨rfl, rfl⟩ := hbo
                  rw [Hej.out] at z0 z1 z2 z3
                  have x0 := OS.out.get (x := .int .i64 ej.h) 0 rfl
                  have x1 := OS.out.get (x := .int .i64 ej.i) 1 rfl
                  have x2 := OS.out.get (x := .string ej.s) 2 rfl
                  have x3 := OS.out.get (x := .int .i64 ej.d) 3 rfl
                  have lO := OS.out.lt
                  have hb13 : Below w8.heap.size w8 w12.drew := hb12.drew
                  clear hb12
                  go_wp2_with fail
                  go_still (by kernel_rfl)
                  change Exit.then _ _ Exit.normal _ w12.drew
                  go_wp2
                  first
                    | exact ⟨⟨j + 1, by go_num, by omega, hb13⟩, by simp [intOf]; omega⟩
                    | (go_roundw; case rel => exact ⟨j + 1, by go_num, by omega, hb13⟩; case measure => (simp [intOf]; omega))
                · go_simp
                  have OZ0 : Blk (wr.drew.alloc (.cells #[.int .i64 0, .int .i64 0, .string ⟨#[]⟩, .int .i64 0] 28)) wr.heap.size 28 #[.int .i64 0, .int .i64 0, .string ⟨#[]⟩, .int .i64 0] := Blk.new' _ _ _ _ rfl
                  have lwr := hbel.size
                  have nb : b ≠ wr.heap.size := by omega
                  have z0A := cellA (o := (.cells #[.int .i64 0, .int .i64 0, .string ⟨#[]⟩, .int .i64 0] 28)) z0
                  have z1A := cellA (o := (.cells #[.int .i64 0, .int .i64 0, .string ⟨#[]⟩, .int .i64 0] 28)) z1
                  refine hK.out _ _ ⟨z0A, z1A⟩ (fun hHeld => ?_)
                  clear hK K
                  try simp only []
                  refine wpAnyH_ready (rs := [11]) (by kernel_rfl) (by simp) ?_
                  refine AllReadyH.cons (o := ?oi1020) ?hi1020 (fun K hK => ?_) AllReadyH.nil
                  case hi1020 => (conv => lhs; simp only [List.getElem?_toArray, List.getElem?_cons_zero, List.getElem?_cons_succ]); try exact rfl
                  go_simp
                  go_at_call 10
                  refine (pgFind_impl A5 m5 c5 ps' ej.h ej.i Hz.out hm5 (wr.drew.alloc (.cells #[.int .i64 0, .int .i64 0, .string ⟨#[]⟩, .int .i64 0] 28)) (FRr.out.bl (belA (bel0 _).drew _)).at_).mono ?_
                  rintro e w10 ⟨rfl, hb10⟩
                  rw [Hm.out]
                  have k0 := keep1 hb10 z0A (Nat.le_refl _)
                  have k1 := keep1 hb10 z1A (Nat.le_refl _)
                  have OZ := OZ0.below hb10 OZ0.lt
                  have c0 := OZ.get (x := .int .i64 0) 0 rfl
                  have c1 := OZ.get (x := .int .i64 0) 1 rfl
                  have c2 := OZ.get (x := .string ⟨#[]⟩) 2 rfl
                  have c3 := OZ.get (x := .int .i64 0) 3 rfl
                  have f0 := OZ.frozen 0
                  have f1 := OZ.frozen 1
                  have f2 := OZ.frozen 2
                  have f3 := OZ.frozen 3
                  refine hK.out _ _ ⟨k0, k1⟩ (fun hHeld1020 => ?_)
                  clear hK K
                  try simp only []
                  refine wpAnyH_take (i := 12) (oi := ?oi1021) (v := ?v1021) ?hi1021 ?hs1021 ?hf1021 ?hr1021 ?hQ1021 ?hy1021 ?hS1021 ?hrest1021
                  case hi1021 => (conv => lhs; simp only [List.getElem?_toArray, List.getElem?_cons_zero, List.getElem?_cons_succ]); try exact rfl
                  case hs1021 => kernel_rfl
                  case hf1021 => kernel_rfl
                  case hr1021 => kernel_rfl
                  case hQ1021 => exact fun _ _ _ h => h
                  case hS1021 => assumption
                  case hy1021 => refine Or.inl ⟨by rfl, ?_⟩; intro w hSw; (try dsimp only at hSw); go_simp; (try with_reducible rfl)
                  simp only [Act.put, List.setIfInBounds_toArray, List.set_cons_zero, List.set_cons_succ]
                  refine wpAnyH_take (i := 13) (oi := ?oi1022) (v := ?v1022) ?hi1022 ?hs1022 ?hf1022 ?hr1022 ?hQ1022 ?hy1022 ?hS1022 ?hrest1022
                  case hi1022 => (conv => lhs; simp only [List.getElem?_toArray, List.getElem?_cons_zero, List.getElem?_cons_succ]); try exact rfl
                  case hs1022 => kernel_rfl
                  case hf1022 => kernel_rfl
                  case hr1022 => kernel_rfl
                  case hQ1022 => exact fun _ _ _ h => h
                  case hS1022 => assumption
                  case hy1022 => refine Or.inl ⟨by rfl, ?_⟩; intro w hSw; (try dsimp only at hSw); go_simp; (try with_reducible rfl)
                  simp only [Act.put, List.setIfInBounds_toArray, List.set_cons_zero, List.set_cons_succ]
                  refine wpAnyH_take (i := 14) (oi := ?oi1023) (v := ?v1023) ?hi1023 ?hs1023 ?hf1023 ?hr1023 ?hQ1023 ?hy1023 ?hS1023 ?hrest1023
                  case hi1023 => (conv => lhs; simp only [List.getElem?_toArray, List.getElem?_cons_zero, List.getElem?_cons_succ]); try exact rfl
                  case hs1023 => kernel_rfl
                  case hf1023 => kernel_rfl
                  case hr1023 => kernel_rfl
                  case hQ1023 => exact fun _ _ _ h => h
                  case hS1023 => assumption
                  case hy1023 => refine Or.inl ⟨by rfl, ?_⟩; intro w hSw; (try dsimp only at hSw); go_simp; (try with_reducible rfl)
                  simp only [Act.put, List.setIfInBounds_toArray, List.set_cons_zero, List.set_cons_succ]
                  refine wpAnyH_ready (rs := [16]) (by kernel_rfl) (by simp) ?_
                  refine AllReadyH.cons (o := ?oi1024) ?hi1024 (fun K hK => ?_) AllReadyH.nil
                  case hi1024 => (conv => lhs; simp only [List.getElem?_toArray, List.getElem?_cons_zero, List.getElem?_cons_succ]); try exact rfl
                  go_simp
                  refine hK.out _ _ ⟨cell4 k0 nb, cell4 k1 nb⟩ (fun hHeld1024 => ?_)
                  clear hK K
                  try simp only [Act.put, List.setIfInBounds_toArray, List.set_cons_zero, List.set_cons_succ]
                  refine wpAnyH_take (i := 17) (oi := ?oi1025) (v := ?v1025) ?hi1025 ?hs1025 ?hf1025 ?hr1025 ?hQ1025 ?hy1025 ?hS1025 ?hrest1025
                  case hi1025 => (conv => lhs; simp only [List.getElem?_toArray, List.getElem?_cons_zero, List.getElem?_cons_succ]); try exact rfl
                  case hs1025 => kernel_rfl
                  case hf1025 => kernel_rfl
                  case hr1025 => kernel_rfl
                  case hQ1025 => exact fun _ _ _ h => h
                  case hS1025 => assumption
                  case hy1025 => refine Or.inl ⟨by rfl, ?_⟩; intro w hSw; (try dsimp only at hSw); go_simp; (try with_reducible rfl)
                  simp only [Act.put, List.setIfInBounds_toArray, List.set_cons_zero, List.set_cons_succ]
                  refine wpAnyH_done (by kernel_rfl) ?_ _
                  have hOS := (((OZ.put 0 (.int .i64 ej.h) #[.int .i64 ej.h, .int .i64 0, .string ⟨#[]⟩, .int .i64 0] rfl).put 1 (.int .i64 ej.i) #[.int .i64 ej.h, .int .i64 ej.i, .string ⟨#[]⟩, .int .i64 0] rfl).put 2 (.string ej.s) #[.int .i64 ej.h, .int .i64 ej.i, .string ej.s, .int .i64 0] rfl).put 3 (.int .i64 ej.d) #[.int .i64 ej.h, .int .i64 ej.i, .string ej.s, .int .i64 ej.d] rfl
                  have lws : w8.heap.size ≤ (wr.drew.alloc (.cells #[.int .i64 0, .int .i64 0, .string ⟨#[]⟩, .int .i64 0] 28)).heap.size := by rw [World.size_alloc]; have : wr.drew.heap.size = wr.heap.size := rfl; omega
                  have hb12 := (((((hbel.drew.alloc hbel.size (.cells #[.int .i64 0, .int .i64 0, .string ⟨#[]⟩, .int .i64 0] 28)).trans (hb10.mono lws)).setCell (p := ⟨wr.heap.size, 0, none⟩) (by omega) (.int .i64 ej.h)).setCell (p := ⟨wr.heap.size, 1, none⟩) (by omega) (.int .i64 ej.i)).setCell (p := ⟨wr.heap.size, 2, none⟩) (by omega) (.string ej.s)).setCell (p := ⟨wr.heap.size, 3, none⟩) (by omega) (.int .i64 ej.d)
                  clear c0 c1 c2 c3 f0 f1 f2 f3 k0 k1 z0A z1A OZ OZ0 hb10
                  generalize ((((w10.setCell ⟨wr.heap.size, 0, none⟩ (.int .i64 ej.h)).setCell ⟨wr.heap.size, 1, none⟩ (.int .i64 ej.i)).setCell ⟨wr.heap.size, 2, none⟩ (.string ej.s)).setCell ⟨wr.heap.size, 3, none⟩ (.int .i64 ej.d)) = w12 at hOS hb12 ⊢
                  have lw10 := hb12.size
                  have OS := Lib.hid hOS
                  clear hOS z0 z1 z2 z3
                  obtain ⟨_, b', o', hbo, _, z0, z1, z2, z3⟩ := reads_ent ((Hru.out.below hb12).more hb12.size) hjl
                  simp only [Option.some.injEq, Addr.mk.injEq, and_true] at hbo
                  obtain ⟨rfl, rfl⟩ := hbo
                  rw [Hej.out] at z0 z1 z2 z3
                  have x0 := OS.out.get (x := .int .i64 ej.h) 0 rfl
                  have x1 := OS.out.get (x := .int .i64 ej.i) 1 rfl
                  have x2 := OS.out.get (x := .string ej.s) 2 rfl
                  have x3 := OS.out.get (x := .int .i64 ej.d) 3 rfl
                  have lO := OS.out.lt
                  have hb13 : Below w8.heap.size w8 w12.drew := hb12.drew
                  clear hb12
                  go_wp2_with fail
                  go_still (by kernel_rfl)
                  change Exit.then _ _ Exit.normal _ w12.drew
                  go_wp2
                  first
                    | exact ⟨⟨j + 1, by go_num, by omega, hb13⟩, by simp [intOf]; omega⟩
                    | (go_roundw; case rel => exact ⟨j + 1, by go_num, by omega, hb13⟩; case measure => (simp [intOf]; omega))
              · have hjW : j = W.length := by omega
                have hjn : ¬ (j < W.length) := hjl
                have hjn2 : ¬ ((j : Int) < (W.length : Int)) := by omega
                rename World => w11
                clear hjW hj
                go_wp2
                go_loopw [19] (fun t wr => ∃ j : Nat, 1 ≤ j ∧ j ≤ 100 ∧ t = .int .i64 j ∧ Below w8.heap.size w8 wr) (fun t _ => 100 - (intOf t).toNat)
                case atStart => exact ⟨1, by omega, by omega, rfl, hbel⟩
                case round =>
                  clear hjl hjn hjn2 hbel
                  obtain ⟨j, hj1, hj2, rfl, hbel⟩ := hrel
                  by_cases hjl : j < W.length
                  · obtain ⟨p, hp⟩ : ∃ p, j = p + 1 := ⟨j - 1, by omega⟩
                    obtain ⟨hkj, b, o, rfl, _, z0, z1, _, _⟩ := reads_ent ((Hrl.out.below hbel).more hbel.size) hjl
                    obtain ⟨hkp, b', o', hbo, _, y0, y1, _, _⟩ := reads_ent ((Hrl.out.below hbel).more hbel.size) (show p < W.length by omega)
                    simp only [Option.some.injEq, Addr.mk.injEq, and_true] at hbo
                    obtain ⟨rfl, rfl⟩ := hbo
                    have hRl : Rl F[p] F[j] := by subst hp; exact HO8.out p hkj
                    rw [Rl_iff] at hRl
                    obtain ⟨ah, hah⟩ : ∃ x, F[p].h = x := ⟨_, rfl⟩
                    obtain ⟨ai, hai⟩ : ∃ x, F[p].i = x := ⟨_, rfl⟩
                    obtain ⟨ch, hch⟩ : ∃ x, F[j].h = x := ⟨_, rfl⟩
                    obtain ⟨ci, hci⟩ : ∃ x, F[j].i = x := ⟨_, rfl⟩
                    rw [hah, hai, hch, hci] at hRl
                    rw [hah] at y0
                    rw [hai] at y1
                    rw [hch] at z0
                    rw [hci] at z1
                    have q0 : (0 : Int) ≤ (j : Int) := by omega
                    have q1 : (j : Int) < (W.length : Int) := by omega
                    have q2 : (0 : Int) ≤ (p : Int) := by omega
                    have q3 : (p : Int) < (W.length : Int) := by omega
                    have wj : IntKind.i64.wrap ((j : Int) - 1) = (p : Int) := by rw [IntKind.wrap_i64]; omega
                    have hb13 : Below w8.heap.size w8 wr.drew := hbel.drew
                    clear hah hai hch hci hp hbel
                    rcases hRl with hlt' | ⟨rfl, hlt'⟩
                    · have g1 : ¬ (ah > ch) := by omega
                      have g1b : decide (ch < ah) = false := by simp; omega
                      have g1c : ¬ (ch < ah) := by omega
                      have g2 : (ah == ch) = false := by simp; omega
                      clear hlt'
                      go_wp2_with fail
                      refine wp_region_held_drew (S := fun w' => w'.cell? ⟨b, o + p * 4, none⟩ = some (.int .i64 ah) ∧ w'.cell? ⟨b, o + p * 4 + 1, none⟩ = some (.int .i64 ai) ∧ w'.cell? ⟨b, o + j * 4, none⟩ = some (.int .i64 ch) ∧ w'.cell? ⟨b, o + j * 4 + 1, none⟩ = some (.int .i64 ci)) (by kernel_rfl) ⟨y0, y1, z0, z1⟩ (fun hHeld => ?_)
                      refine wpAnyH_take (i := 0) (oi := ?oi1101) (v := ?v1101) ?hi1101 ?hs1101 ?hf1101 ?hr1101 ?hQ1101 ?hy1101 ?hS1101 ?hrest1101
                      case hi1101 => (conv => lhs; simp only [List.getElem?_toArray, List.getElem?_cons_zero]); try exact rfl
                      case hs1101 => kernel_rfl
                      case hf1101 => kernel_rfl
                      case hr1101 => kernel_rfl
                      case hQ1101 => exact fun _ _ _ h => h
                      case hS1101 => assumption
                      case hy1101 => refine Or.inl ⟨by rfl, ?_⟩; intro w hSw; (try dsimp only at hSw); go_simp; (try with_reducible rfl)
                      simp only [Act.put, List.setIfInBounds_toArray, List.set_cons_zero, List.set_cons_succ]
                      refine wpAnyH_take (i := 1) (oi := ?oi1102) (v := ?v1102) ?hi1102 ?hs1102 ?hf1102 ?hr1102 ?hQ1102 ?hy1102 ?hS1102 ?hrest1102
                      case hi1102 => (conv => lhs; simp only [List.getElem?_toArray, List.getElem?_cons_zero, List.getElem?_cons_succ]); try exact rfl
                      case hs1102 => kernel_rfl
                      case hf1102 => kernel_rfl
                      case hr1102 => kernel_rfl
                      case hQ1102 => exact fun _ _ _ h => h
                      case hS1102 => assumption
                      case hy1102 => refine Or.inl ⟨by rfl, ?_⟩; intro w hSw; (try dsimp only at hSw); go_simp; (try with_reducible rfl)
                      simp only [Act.put, List.setIfInBounds_toArray, List.set_cons_zero, List.set_cons_succ]
                      refine wpAnyH_take (i := 2) (oi := ?oi1103) (v := ?v1103) ?hi1103 ?hs1103 ?hf1103 ?hr1103 ?hQ1103 ?hy1103 ?hS1103 ?hrest1103
                      case hi1103 => (conv => lhs; simp only [List.getElem?_toArray, List.getElem?_cons_zero, List.getElem?_cons_succ]); try exact rfl
                      case hs1103 => kernel_rfl
                      case hf1103 => kernel_rfl
                      case hr1103 => kernel_rfl
                      case hQ1103 => exact fun _ _ _ h => h
                      case hS1103 => assumption
                      case hy1103 => refine Or.inl ⟨by rfl, ?_⟩; intro w hSw; (try dsimp only at hSw); go_simp; (try with_reducible rfl)
                      simp only [Act.put, List.setIfInBounds_toArray, List.set_cons_zero, List.set_cons_succ]
                      refine wpAnyH_take (i := 3) (oi := ?oi1104) (v := ?v1104) ?hi1104 ?hs1104 ?hf1104 ?hr1104 ?hQ1104 ?hy1104 ?hS1104 ?hrest1104
                      case hi1104 => (conv => lhs; simp only [List.getElem?_toArray, List.getElem?_cons_zero, List.getElem?_cons_succ]); try exact rfl
                      case hs1104 => kernel_rfl
                      case hf1104 => kernel_rfl
                      case hr1104 => kernel_rfl
                      case hQ1104 => exact fun _ _ _ h => h
                      case hS1104 => assumption
                      case hy1104 => refine Or.inl ⟨by rfl, ?_⟩; intro w hSw; (try dsimp only at hSw); go_simp; (try with_reducible rfl)
                      simp only [Act.put, List.setIfInBounds_toArray, List.set_cons_zero, List.set_cons_succ]
                      refine wpAnyH_take (i := 4) (oi := ?oi1105) (v := ?v1105) ?hi1105 ?hs1105 ?hf1105 ?hr1105 ?hQ1105 ?hy1105 ?hS1105 ?hrest1105
                      case hi1105 => (conv => lhs; simp only [List.getElem?_toArray, List.getElem?_cons_zero, List.getElem?_cons_succ]); try exact rfl
                      case hs1105 => kernel_rfl
                      case hf1105 => kernel_rfl
                      case hr1105 => kernel_rfl
                      case hQ1105 => exact fun _ _ _ h => h
                      case hS1105 => assumption
                      case hy1105 => refine Or.inl ⟨by rfl, ?_⟩; intro w hSw; (try dsimp only at hSw); go_simp; (try with_reducible rfl)
                      simp only [Act.put, List.setIfInBounds_toArray, List.set_cons_zero, List.set_cons_succ]
                      refine wpAnyH_take (i := 5) (oi := ?oi1106) (v := ?v1106) ?hi1106 ?hs1106 ?hf1106 ?hr1106 ?hQ1106 ?hy1106 ?hS1106 ?hrest1106
                      case hi1106 => (conv => lhs; simp only [List.getElem?_toArray, List.getElem?_cons_zero, List.getElem?_cons_succ]); try exact rfl
                      case hs1106 => kernel_rfl
                      case hf1106 => kernel_rfl
                      case hr1106 => kernel_rfl
                      case hQ1106 => exact fun _ _ _ h => h
                      case hS1106 => assumption
                      case hy1106 => refine Or.inl ⟨by rfl, ?_⟩; intro w hSw; (try dsimp only at hSw); go_simp; (try with_reducible rfl)
                      simp only [Act.put, List.setIfInBounds_toArray, List.set_cons_zero, List.set_cons_succ]
                      refine wpAnyH_take (i := 6) (oi := ?oi1107) (v := ?v1107) ?hi1107 ?hs1107 ?hf1107 ?hr1107 ?hQ1107 ?hy1107 ?hS1107 ?hrest1107
                      case hi1107 => (conv => lhs; simp only [List.getElem?_toArray, List.getElem?_cons_zero, List.getElem?_cons_succ]); try exact rfl
                      case hs1107 => kernel_rfl
                      case hf1107 => kernel_rfl
                      case hr1107 => kernel_rfl
                      case hQ1107 => exact fun _ _ _ h => h
                      case hS1107 => assumption
                      case hy1107 => refine Or.inl ⟨by rfl, ?_⟩; intro w hSw; (try dsimp only at hSw); go_simp; (try with_reducible rfl)
                      simp only [Act.put, List.setIfInBounds_toArray, List.set_cons_zero, List.set_cons_succ]
                      refine wpAnyH_take (i := 7) (oi := ?oi1108) (v := ?v1108) ?hi1108 ?hs1108 ?hf1108 ?hr1108 ?hQ1108 ?hy1108 ?hS1108 ?hrest1108
                      case hi1108 => (conv => lhs; simp only [List.getElem?_toArray, List.getElem?_cons_zero, List.getElem?_cons_succ]); try exact rfl
                      case hs1108 => kernel_rfl
                      case hf1108 => kernel_rfl
                      case hr1108 => kernel_rfl
                      case hQ1108 => exact fun _ _ _ h => h
                      case hS1108 => assumption
                      case hy1108 => refine Or.inl ⟨by rfl, ?_⟩; intro w hSw; (try dsimp only at hSw); go_simp; (try with_reducible rfl)
                      simp only [Act.put, List.setIfInBounds_toArray, List.set_cons_zero, List.set_cons_succ]
                      refine wpAnyH_take (i := 8) (oi := ?oi1109) (v := ?v1109) ?hi1109 ?hs1109 ?hf1109 ?hr1109 ?hQ1109 ?hy1109 ?hS1109 ?hrest1109
                      case hi1109 => (conv => lhs; simp only [List.getElem?_toArray, List.getElem?_cons_zero, List.getElem?_cons_succ]); try exact rfl
                      case hs1109 => kernel_rfl
                      case hf1109 => kernel_rfl
                      case hr1109 => kernel_rfl
                      case hQ1109 => exact fun _ _ _ h => h
                      case hS1109 => assumption
                      case hy1109 => refine Or.inl ⟨by rfl, ?_⟩; intro w hSw; (try dsimp only at hSw); go_simp; (try with_reducible rfl)
                      simp only [Act.put, List.setIfInBounds_toArray, List.set_cons_zero, List.set_cons_succ]
                      refine wpAnyH_take (i := 9) (oi := ?oi1110) (v := ?v1110) ?hi1110 ?hs1110 ?hf1110 ?hr1110 ?hQ1110 ?hy1110 ?hS1110 ?hrest1110
                      case hi1110 => (conv => lhs; simp only [List.getElem?_toArray, List.getElem?_cons_zero, List.getElem?_cons_succ]); try exact rfl
                      case hs1110 => kernel_rfl
                      case hf1110 => kernel_rfl
                      case hr1110 => kernel_rfl
                      case hQ1110 => exact fun _ _ _ h => h
                      case hS1110 => assumption
                      case hy1110 => refine Or.inl ⟨by rfl, ?_⟩; intro w hSw; (try dsimp only at hSw); go_simp; (try with_reducible rfl)
                      simp only [Act.put, List.setIfInBounds_toArray, List.set_cons_zero, List.set_cons_succ]
                      refine wpAnyH_take (i := 10) (oi := ?oi1111) (v := ?v1111) ?hi1111 ?hs1111 ?hf1111 ?hr1111 ?hQ1111 ?hy1111 ?hS1111 ?hrest1111
                      case hi1111 => (conv => lhs; simp only [List.getElem?_toArray, List.getElem?_cons_zero, List.getElem?_cons_succ]); try exact rfl
                      case hs1111 => kernel_rfl
                      case hf1111 => kernel_rfl
                      case hr1111 => kernel_rfl
                      case hQ1111 => exact fun _ _ _ h => h
                      case hS1111 => assumption
                      case hy1111 => refine Or.inl ⟨by rfl, ?_⟩; intro w hSw; (try dsimp only at hSw); go_simp; (try with_reducible rfl)
                      simp only [Act.put, List.setIfInBounds_toArray, List.set_cons_zero, List.set_cons_succ]
                      refine wpAnyH_take (i := 11) (oi := ?oi1112) (v := ?v1112) ?hi1112 ?hs1112 ?hf1112 ?hr1112 ?hQ1112 ?hy1112 ?hS1112 ?hrest1112
                      case hi1112 => (conv => lhs; simp only [List.getElem?_toArray, List.getElem?_cons_zero, List.getElem?_cons_succ]); try exact rfl
                      case hs1112 => kernel_rfl
                      case hf1112 => kernel_rfl
                      case hr1112 => kernel_rfl
                      case hQ1112 => exact fun _ _ _ h => h
                      case hS1112 => assumption
                      case hy1112 => refine Or.inl ⟨by rfl, ?_⟩; intro w hSw; (try dsimp only at hSw); go_simp; (try with_reducible rfl)
                      simp only [Act.put, List.setIfInBounds_toArray, List.set_cons_zero, List.set_cons_succ]
                      refine wpAnyH_take (i := 12) (oi := ?oi1113) (v := ?v1113) ?hi1113 ?hs1113 ?hf1113 ?hr1113 ?hQ1113 ?hy1113 ?hS1113 ?hrest1113
                      case hi1113 => (conv => lhs; simp only [List.getElem?_toArray, List.getElem?_cons_zero, List.getElem?_cons_succ]); try exact rfl
                      case hs1113 => kernel_rfl
                      case hf1113 => kernel_rfl
                      case hr1113 => kernel_rfl
                      case hQ1113 => exact fun _ _ _ h => h
                      case hS1113 => assumption
                      case hy1113 => refine Or.inl ⟨by rfl, ?_⟩; intro w hSw; (try dsimp only at hSw); go_simp; (try with_reducible rfl)
                      simp only [Act.put, List.setIfInBounds_toArray, List.set_cons_zero, List.set_cons_succ]
                      refine wpAnyH_take (i := 13) (oi := ?oi1114) (v := ?v1114) ?hi1114 ?hs1114 ?hf1114 ?hr1114 ?hQ1114 ?hy1114 ?hS1114 ?hrest1114
                      case hi1114 => (conv => lhs; simp only [List.getElem?_toArray, List.getElem?_cons_zero, List.getElem?_cons_succ]); try exact rfl
                      case hs1114 => kernel_rfl
                      case hf1114 => kernel_rfl
                      case hr1114 => kernel_rfl
                      case hQ1114 => exact fun _ _ _ h => h
                      case hS1114 => assumption
                      case hy1114 => refine Or.inl ⟨by rfl, ?_⟩; intro w hSw; (try dsimp only at hSw); go_simp; (try with_reducible rfl)
                      simp only [Act.put, List.setIfInBounds_toArray, List.set_cons_zero, List.set_cons_succ]
                      refine wpAnyH_take (i := 14) (oi := ?oi1115) (v := ?v1115) ?hi1115 ?hs1115 ?hf1115 ?hr1115 ?hQ1115 ?hy1115 ?hS1115 ?hrest1115
                      case hi1115 => (conv => lhs; simp only [List.getElem?_toArray, List.getElem?_cons_zero, List.getElem?_cons_succ]); try exact rfl
                      case hs1115 => kernel_rfl
                      case hf1115 => kernel_rfl
                      case hr1115 => kernel_rfl
                      case hQ1115 => exact fun _ _ _ h => h
                      case hS1115 => assumption
                      case hy1115 => refine Or.inl ⟨by rfl, ?_⟩; intro w hSw; (try dsimp only at hSw); go_simp; (try with_reducible rfl)
                      simp only [Act.put, List.setIfInBounds_toArray, List.set_cons_zero, List.set_cons_succ]
                      refine wpAnyH_take (i := 15) (oi := ?oi1116) (v := ?v1116) ?hi1116 ?hs1116 ?hf1116 ?hr1116 ?hQ1116 ?hy1116 ?hS1116 ?hrest1116
                      case hi1116 => (conv => lhs; simp only [List.getElem?_toArray, List.getElem?_cons_zero, List.getElem?_cons_succ]); try exact rfl
                      case hs1116 => kernel_rfl
                      case hf1116 => kernel_rfl
                      case hr1116 => kernel_rfl
                      case hQ1116 => exact fun _ _ _ h => h
                      case hS1116 => assumption
                      case hy1116 => refine Or.inl ⟨by rfl, ?_⟩; intro w hSw; (try dsimp only at hSw); go_simp; (try with_reducible rfl)
                      simp only [Act.put, List.setIfInBounds_toArray, List.set_cons_zero, List.set_cons_succ]
                      refine wpAnyH_take (i := 16) (oi := ?oi1117) (v := ?v1117) ?hi1117 ?hs1117 ?hf1117 ?hr1117 ?hQ1117 ?hy1117 ?hS1117 ?hrest1117
                      case hi1117 => (conv => lhs; simp only [List.getElem?_toArray, List.getElem?_cons_zero, List.getElem?_cons_succ]); try exact rfl
                      case hs1117 => kernel_rfl
                      case hf1117 => kernel_rfl
                      case hr1117 => kernel_rfl
                      case hQ1117 => exact fun _ _ _ h => h
                      case hS1117 => assumption
                      case hy1117 => refine Or.inl ⟨by rfl, ?_⟩; intro w hSw; (try dsimp only at hSw); go_simp; (try with_reducible rfl)
                      simp only [Act.put, List.setIfInBounds_toArray, List.set_cons_zero, List.set_cons_succ]
                      refine wpAnyH_take (i := 17) (oi := ?oi1118) (v := ?v1118) ?hi1118 ?hs1118 ?hf1118 ?hr1118 ?hQ1118 ?hy1118 ?hS1118 ?hrest1118
                      case hi1118 => (conv => lhs; simp only [List.getElem?_toArray, List.getElem?_cons_zero, List.getElem?_cons_succ]); try exact rfl
                      case hs1118 => kernel_rfl
                      case hf1118 => kernel_rfl
                      case hr1118 => kernel_rfl
                      case hQ1118 => exact fun _ _ _ h => h
                      case hS1118 => assumption
                      case hy1118 => refine Or.inl ⟨by rfl, ?_⟩; intro w hSw; (try dsimp only at hSw); go_simp; (try with_reducible rfl)
                      simp only [Act.put, List.setIfInBounds_toArray, List.set_cons_zero, List.set_cons_succ]
                      refine wpAnyH_take (i := 18) (oi := ?oi1119) (v := ?v1119) ?hi1119 ?hs1119 ?hf1119 ?hr1119 ?hQ1119 ?hy1119 ?hS1119 ?hrest1119
                      case hi1119 => (conv => lhs; simp only [List.getElem?_toArray, List.getElem?_cons_zero, List.getElem?_cons_succ]); try exact rfl
                      case hs1119 => kernel_rfl
                      case hf1119 => kernel_rfl
                      case hr1119 => kernel_rfl
                      case hQ1119 => exact fun _ _ _ h => h
                      case hS1119 => assumption
                      case hy1119 => refine Or.inl ⟨by rfl, ?_⟩; intro w hSw; (try dsimp only at hSw); go_simp; (try with_reducible rfl)
                      simp only [Act.put, List.setIfInBounds_toArray, List.set_cons_zero, List.set_cons_succ]
                      refine wpAnyH_take (i := 19) (oi := ?oi1120) (v := ?v1120) ?hi1120 ?hs1120 ?hf1120 ?hr1120 ?hQ1120 ?hy1120 ?hS1120 ?hrest1120
                      case hi1120 => (conv => lhs; simp only [List.getElem?_toArray, List.getElem?_cons_zero, List.getElem?_cons_succ]); try exact rfl
                      case hs1120 => kernel_rfl
                      case hf1120 => kernel_rfl
                      case hr1120 => kernel_rfl
                      case hQ1120 => exact fun _ _ _ h => h
                      case hS1120 => assumption
                      case hy1120 => refine Or.inl ⟨by rfl, ?_⟩; intro w hSw; (try dsimp only at hSw); go_simp; (try with_reducible rfl)
                      simp only [Act.put, List.setIfInBounds_toArray, List.set_cons_zero, List.set_cons_succ]
                      refine wpAnyH_take (i := 20) (oi := ?oi1121) (v := ?v1121) ?hi1121 ?hs1121 ?hf1121 ?hr1121 ?hQ1121 ?hy1121 ?hS1121 ?hrest1121
                      case hi1121 => (conv => lhs; simp only [List.getElem?_toArray, List.getElem?_cons_zero, List.getElem?_cons_succ]); try exact rfl
                      case hs1121 => kernel_rfl
                      case hf1121 => kernel_rfl
                      case hr1121 => kernel_rfl
                      case hQ1121 => exact fun _ _ _ h => h
                      case hS1121 => assumption
                      case hy1121 => refine Or.inl ⟨by rfl, ?_⟩; intro w hSw; (try dsimp only at hSw); go_simp; (try with_reducible rfl)
                      simp only [Act.put, List.setIfInBounds_toArray, List.set_cons_zero, List.set_cons_succ]
                      refine wpAnyH_take (i := 21) (oi := ?oi1122) (v := ?v1122) ?hi1122 ?hs1122 ?hf1122 ?hr1122 ?hQ1122 ?hy1122 ?hS1122 ?hrest1122
                      case hi1122 => (conv => lhs; simp only [List.getElem?_toArray, List.getElem?_cons_zero, List.getElem?_cons_succ]); try exact rfl
                      case hs1122 => kernel_rfl
                      case hf1122 => kernel_rfl
                      case hr1122 => kernel_rfl
                      case hQ1122 => exact fun _ _ _ h => h
                      case hS1122 => assumption
                      case hy1122 => refine Or.inl ⟨by rfl, ?_⟩; intro w hSw; (try dsimp only at hSw); go_simp; (try with_reducible rfl)
                      simp only [Act.put, List.setIfInBounds_toArray, List.set_cons_zero, List.set_cons_succ]
                      refine wpAnyH_take (i := 22) (oi := ?oi1123) (v := ?v1123) ?hi1123 ?hs1123 ?hf1123 ?hr1123 ?hQ1123 ?hy1123 ?hS1123 ?hrest1123
                      case hi1123 => (conv => lhs; simp only [List.getElem?_toArray, List.getElem?_cons_zero, List.getElem?_cons_succ]); try exact rfl
                      case hs1123 => kernel_rfl
                      case hf1123 => kernel_rfl
                      case hr1123 => kernel_rfl
                      case hQ1123 => exact fun _ _ _ h => h
                      case hS1123 => assumption
                      case hy1123 => refine Or.inl ⟨by rfl, ?_⟩; intro w hSw; (try dsimp only at hSw); go_simp; (try with_reducible rfl)
                      simp only [Act.put, List.setIfInBounds_toArray, List.set_cons_zero, List.set_cons_succ]
                      refine wpAnyH_take (i := 23) (oi := ?oi1124) (v := ?v1124) ?hi1124 ?hs1124 ?hf1124 ?hr1124 ?hQ1124 ?hy1124 ?hS1124 ?hrest1124
                      case hi1124 => (conv => lhs; simp only [List.getElem?_toArray, List.getElem?_cons_zero, List.getElem?_cons_succ]); try exact rfl
                      case hs1124 => kernel_rfl
                      case hf1124 => kernel_rfl
                      case hr1124 => kernel_rfl
                      case hQ1124 => exact fun _ _ _ h => h
                      case hS1124 => assumption
                      case hy1124 => refine Or.inl ⟨by rfl, ?_⟩; intro w hSw; (try dsimp only at hSw); go_simp; (try with_reducible rfl)
                      simp only [Act.put, List.setIfInBounds_toArray, List.set_cons_zero, List.set_cons_succ]
                      refine wpAnyH_take (i := 24) (oi := ?oi1125) (v := ?v1125) ?hi1125 ?hs1125 ?hf1125 ?hr1125 ?hQ1125 ?hy1125 ?hS1125 ?hrest1125
                      case hi1125 => (conv => lhs; simp only [List.getElem?_toArray, List.getElem?_cons_zero, List.getElem?_cons_succ]); try exact rfl
                      case hs1125 => kernel_rfl
                      case hf1125 => kernel_rfl
                      case hr1125 => kernel_rfl
                      case hQ1125 => exact fun _ _ _ h => h
                      case hS1125 => assumption
                      case hy1125 => refine Or.inl ⟨by rfl, ?_⟩; intro w hSw; (try dsimp only at hSw); go_simp; (try with_reducible rfl)
                      simp only [Act.put, List.setIfInBounds_toArray, List.set_cons_zero, List.set_cons_succ]
                      refine wpAnyH_take (i := 25) (oi := ?oi1126) (v := ?v1126) ?hi1126 ?hs1126 ?hf1126 ?hr1126 ?hQ1126 ?hy1126 ?hS1126 ?hrest1126
                      case hi1126 => (conv => lhs; simp only [List.getElem?_toArray, List.getElem?_cons_zero, List.getElem?_cons_succ]); try exact rfl
                      case hs1126 => kernel_rfl
                      case hf1126 => kernel_rfl
                      case hr1126 => kernel_rfl
                      case hQ1126 => exact fun _ _ _ h => h
                      case hS1126 => assumption
                      case hy1126 => refine Or.inl ⟨by rfl, ?_⟩; intro w hSw; (try dsimp only at hSw); go_simp; (try with_reducible rfl)
                      simp only [Act.put, List.setIfInBounds_toArray, List.set_cons_zero, List.set_cons_succ]
                      refine wpAnyH_take (i := 26) (oi := ?oi1127) (v := undef) ?hi1127 ?hs1127 ?hf1127 ?hr1127 ?hQ1127 ?hy1127 ?hS1127 ?hrest1127
                      case hi1127 => (conv => lhs; simp only [List.getElem?_toArray, List.getElem?_cons_zero, List.getElem?_cons_succ]); try exact rfl
                      case hs1127 => kernel_rfl
                      case hf1127 => kernel_rfl
                      case hr1127 => kernel_rfl
                      case hQ1127 => exact fun _ _ _ h => h
                      case hS1127 => assumption
                      case hy1127 => exact Or.inr ⟨by rfl, rfl⟩
                      simp only [Act.put, List.setIfInBounds_toArray, List.set_cons_zero, List.set_cons_succ]
                      refine wpAnyH_take (i := 27) (oi := ?oi1128) (v := undef) ?hi1128 ?hs1128 ?hf1128 ?hr1128 ?hQ1128 ?hy1128 ?hS1128 ?hrest1128
                      case hi1128 => (conv => lhs; simp only [List.getElem?_toArray, List.getElem?_cons_zero, List.getElem?_cons_succ]); try exact rfl
                      case hs1128 => kernel_rfl
                      case hf1128 => kernel_rfl
                      case hr1128 => kernel_rfl
                      case hQ1128 => exact fun _ _ _ h => h
                      case hS1128 => assumption
                      case hy1128 => exact Or.inr ⟨by rfl, rfl⟩
                      simp only [Act.put, List.setIfInBounds_toArray, List.set_cons_zero, List.set_cons_succ]
                      refine wpAnyH_take (i := 28) (oi := ?oi1129) (v := undef) ?hi1129 ?hs1129 ?hf1129 ?hr1129 ?hQ1129 ?hy1129 ?hS1129 ?hrest1129
                      case hi1129 => (conv => lhs; simp only [List.getElem?_toArray, List.getElem?_cons_zero, List.getElem?_cons_succ]); try exact rfl
                      case hs1129 => kernel_rfl
                      case hf1129 => kernel_rfl
                      case hr1129 => kernel_rfl
                      case hQ1129 => exact fun _ _ _ h => h
                      case hS1129 => assumption
                      case hy1129 => exact Or.inr ⟨by rfl, rfl⟩
                      simp only [Act.put, List.setIfInBounds_toArray, List.set_cons_zero, List.set_cons_succ]
                      refine wpAnyH_take (i := 29) (oi := ?oi1130) (v := undef) ?hi1130 ?hs1130 ?hf1130 ?hr1130 ?hQ1130 ?hy1130 ?hS1130 ?hrest1130
                      case hi1130 => (conv => lhs; simp only [List.getElem?_toArray, List.getElem?_cons_zero, List.getElem?_cons_succ]); try exact rfl
                      case hs1130 => kernel_rfl
                      case hf1130 => kernel_rfl
                      case hr1130 => kernel_rfl
                      case hQ1130 => exact fun _ _ _ h => h
                      case hS1130 => assumption
                      case hy1130 => exact Or.inr ⟨by rfl, rfl⟩
                      simp only [Act.put, List.setIfInBounds_toArray, List.set_cons_zero, List.set_cons_succ]
                      refine wpAnyH_take (i := 30) (oi := ?oi1131) (v := undef) ?hi1131 ?hs1131 ?hf1131 ?hr1131 ?hQ1131 ?hy1131 ?hS1131 ?hrest1131
                      case hi1131 => (conv => lhs; simp only [List.getElem?_toArray, List.getElem?_cons_zero, List.getElem?_cons_succ]); try exact rfl
                      case hs1131 => kernel_rfl
                      case hf1131 => kernel_rfl
                      case hr1131 => kernel_rfl
                      case hQ1131 => exact fun _ _ _ h => h
                      case hS1131 => assumption
                      case hy1131 => exact Or.inr ⟨by rfl, rfl⟩
                      simp only [Act.put, List.setIfInBounds_toArray, List.set_cons_zero, List.set_cons_succ]
                      refine wpAnyH_take (i := 31) (oi := ?oi1132) (v := undef) ?hi1132 ?hs1132 ?hf1132 ?hr1132 ?hQ1132 ?hy1132 ?hS1132 ?hrest1132
                      case hi1132 => (conv => lhs; simp only [List.getElem?_toArray, List.getElem?_cons_zero, List.getElem?_cons_succ]); try exact rfl
                      case hs1132 => kernel_rfl
                      case hf1132 => kernel_rfl
                      case hr1132 => kernel_rfl
                      case hQ1132 => exact fun _ _ _ h => h
                      case hS1132 => assumption
                      case hy1132 => exact Or.inr ⟨by rfl, rfl⟩
                      simp only [Act.put, List.setIfInBounds_toArray, List.set_cons_zero, List.set_cons_succ]
                      refine wpAnyH_take (i := 32) (oi := ?oi1133) (v := undef) ?hi1133 ?hs1133 ?hf1133 ?hr1133 ?hQ1133 ?hy1133 ?hS1133 ?hrest1133
                      case hi1133 => (conv => lhs; simp only [List.getElem?_toArray, List.getElem?_cons_zero, List.getElem?_cons_succ]); try exact rfl
                      case hs1133 => kernel_rfl
                      case hf1133 => kernel_rfl
                      case hr1133 => kernel_rfl
                      case hQ1133 => exact fun _ _ _ h => h
                      case hS1133 => assumption
                      case hy1133 => exact Or.inr ⟨by rfl, rfl⟩
                      simp only [Act.put, List.setIfInBounds_toArray, List.set_cons_zero, List.set_cons_succ]
                      refine wpAnyH_take (i := 33) (oi := ?oi1134) (v := undef) ?hi1134 ?hs1134 ?hf1134 ?hr1134 ?hQ1134 ?hy1134 ?hS1134 ?hrest1134
                      case hi1134 => (conv => lhs; simp only [List.getElem?_toArray, List.getElem?_cons_zero, List.getElem?_cons_succ]); try exact rfl
                      case hs1134 => kernel_rfl
                      case hf1134 => kernel_rfl
                      case hr1134 => kernel_rfl
                      case hQ1134 => exact fun _ _ _ h => h
                      case hS1134 => assumption
                      case hy1134 => exact Or.inr ⟨by rfl, rfl⟩
                      simp only [Act.put, List.setIfInBounds_toArray, List.set_cons_zero, List.set_cons_succ]
                      refine wpAnyH_take (i := 34) (oi := ?oi1135) (v := undef) ?hi1135 ?hs1135 ?hf1135 ?hr1135 ?hQ1135 ?hy1135 ?hS1135 ?hrest1135
                      case hi1135 => (conv => lhs; simp only [List.getElem?_toArray, List.getElem?_cons_zero, List.getElem?_cons_succ]); try exact rfl
                      case hs1135 => kernel_rfl
                      case hf1135 => kernel_rfl
                      case hr1135 => kernel_rfl
                      case hQ1135 => exact fun _ _ _ h => h
                      case hS1135 => assumption
                      case hy1135 => exact Or.inr ⟨by rfl, rfl⟩
                      simp only [Act.put, List.setIfInBounds_toArray, List.set_cons_zero, List.set_cons_succ]
                      refine wpAnyH_take (i := 35) (oi := ?oi1136) (v := undef) ?hi1136 ?hs1136 ?hf1136 ?hr1136 ?hQ1136 ?hy1136 ?hS1136 ?hrest1136
                      case hi1136 => (conv => lhs; simp only [List.getElem?_toArray, List.getElem?_cons_zero, List.getElem?_cons_succ]); try exact rfl
                      case hs1136 => kernel_rfl
                      case hf1136 => kernel_rfl
                      case hr1136 => kernel_rfl
                      case hQ1136 => exact fun _ _ _ h => h
                      case hS1136 => assumption
                      case hy1136 => exact Or.inr ⟨by rfl, rfl⟩
                      simp only [Act.put, List.setIfInBounds_toArray, List.set_cons_zero, List.set_cons_succ]
                      refine wpAnyH_take (i := 36) (oi := ?oi1137) (v := undef) ?hi1137 ?hs1137 ?hf1137 ?hr1137 ?hQ1137 ?hy1137 ?hS1137 ?hrest1137
                      case hi1137 => (conv => lhs; simp only [List.getElem?_toArray, List.getElem?_cons_zero, List.getElem?_cons_succ]); try exact rfl
                      case hs1137 => kernel_rfl
                      case hf1137 => kernel_rfl
                      case hr1137 => kernel_rfl
                      case hQ1137 => exact fun _ _ _ h => h
                      case hS1137 => assumption
                      case hy1137 => exact Or.inr ⟨by rfl, rfl⟩
                      simp only [Act.put, List.setIfInBounds_toArray, List.set_cons_zero, List.set_cons_succ]
                      refine wpAnyH_take (i := 37) (oi := ?oi1138) (v := undef) ?hi1138 ?hs1138 ?hf1138 ?hr1138 ?hQ1138 ?hy1138 ?hS1138 ?hrest1138
                      case hi1138 => (conv => lhs; simp only [List.getElem?_toArray, List.getElem?_cons_zero, List.getElem?_cons_succ]); try exact rfl
                      case hs1138 => kernel_rfl
                      case hf1138 => kernel_rfl
                      case hr1138 => kernel_rfl
                      case hQ1138 => exact fun _ _ _ h => h
                      case hS1138 => assumption
                      case hy1138 => exact Or.inr ⟨by rfl, rfl⟩
                      simp only [Act.put, List.setIfInBounds_toArray, List.set_cons_zero, List.set_cons_succ]
                      refine wpAnyH_take (i := 38) (oi := ?oi1139) (v := ?v1139) ?hi1139 ?hs1139 ?hf1139 ?hr1139 ?hQ1139 ?hy1139 ?hS1139 ?hrest1139
                      case hi1139 => (conv => lhs; simp only [List.getElem?_toArray, List.getElem?_cons_zero, List.getElem?_cons_succ]); try exact rfl
                      case hs1139 => kernel_rfl
                      case hf1139 => kernel_rfl
                      case hr1139 => kernel_rfl
                      case hQ1139 => exact fun _ _ _ h => h
                      case hS1139 => assumption
                      case hy1139 => refine Or.inl ⟨by rfl, ?_⟩; intro w hSw; (try dsimp only at hSw); go_simp; (try with_reducible rfl)
                      simp only [Act.put, List.setIfInBounds_toArray, List.set_cons_zero, List.set_cons_succ]
                      refine wpAnyH_take (i := 39) (oi := ?oi1140) (v := ?v1140) ?hi1140 ?hs1140 ?hf1140 ?hr1140 ?hQ1140 ?hy1140 ?hS1140 ?hrest1140
                      case hi1140 => (conv => lhs; simp only [List.getElem?_toArray, List.getElem?_cons_zero, List.getElem?_cons_succ]); try exact rfl
                      case hs1140 => kernel_rfl
                      case hf1140 => kernel_rfl
                      case hr1140 => kernel_rfl
                      case hQ1140 => exact fun _ _ _ h => h
                      case hS1140 => assumption
                      case hy1140 => refine Or.inl ⟨by rfl, ?_⟩; intro w hSw; (try dsimp only at hSw); go_simp; (try with_reducible rfl)
                      simp only [Act.put, List.setIfInBounds_toArray, List.set_cons_zero, List.set_cons_succ]
                      refine wpAnyH_done (by kernel_rfl) ?_ _
                      go_wp2
                      first
                        | exact ⟨⟨j + 1, by omega, by omega, by go_num, hb13⟩, by simp [intOf]; omega⟩
                        | (go_roundw; case rel => exact ⟨j + 1, by omega, by omega, by go_num, hb13⟩; case measure => (simp [intOf]; omega))
                    · have g3 : ¬ (ai ≥ ci) := by omega
                      have g3b : decide (ci ≤ ai) = false := by simp; omega
                      have g4 : ¬ (ci ≤ ai) := by omega
                      clear hlt'
                      go_wp2_with fail
                      refine wp_region_held_drew (S := fun w' => w'.cell? ⟨b, o + p * 4, none⟩ = some (.int .i64 ch) ∧ w'.cell? ⟨b, o + p * 4 + 1, none⟩ = some (.int .i64 ai) ∧ w'.cell? ⟨b, o + j * 4, none⟩ = some (.int .i64 ch) ∧ w'.cell? ⟨b, o + j * 4 + 1, none⟩ = some (.int .i64 ci)) (by kernel_rfl) ⟨y0, y1, z0, z1⟩ (fun hHeld => ?_)
                      refine wpAnyH_take (i := 0) (oi := ?oi1301) (v := ?v1301) ?hi1301 ?hs1301 ?hf1301 ?hr1301 ?hQ1301 ?hy1301 ?hS1301 ?hrest1301
                      case hi1301 => (conv => lhs; simp only [List.getElem?_toArray, List.getElem?_cons_zero]); try exact rfl
                      case hs1301 => kernel_rfl
                      case hf1301 => kernel_rfl
                      case hr1301 => kernel_rfl
                      case hQ1301 => exact fun _ _ _ h => h
                      case hS1301 => assumption
                      case hy1301 => refine Or.inl ⟨by rfl, ?_⟩; intro w hSw; (try dsimp only at hSw); go_simp; (try with_reducible rfl)
                      simp only [Act.put, List.setIfInBounds_toArray, List.set_cons_zero, List.set_cons_succ]
                      refine wpAnyH_take (i := 1) (oi := ?oi1302) (v := ?v1302) ?hi1302 ?hs1302 ?hf1302 ?hr1302 ?hQ1302 ?hy1302 ?hS1302 ?hrest1302
                      case hi1302 => (conv => lhs; simp only [List.getElem?_toArray, List.getElem?_cons_zero, List.getElem?_cons_succ]); try exact rfl
                      case hs1302 => kernel_rfl
                      case hf1302 => kernel_rfl
                      case hr1302 => kernel_rfl
                      case hQ1302 => exact fun _ _ _ h => h
                      case hS1302 => assumption
                      case hy1302 => refine Or.inl ⟨by rfl, ?_⟩; intro w hSw; (try dsimp only at hSw); go_simp; (try with_reducible rfl)
                      simp only [Act.put, List.setIfInBounds_toArray, List.set_cons_zero, List.set_cons_succ]
                      refine wpAnyH_take (i := 2) (oi := ?oi1303) (v := ?v1303) ?hi1303 ?hs1303 ?hf1303 ?hr1303 ?hQ1303 ?hy1303 ?hS1303 ?hrest1303
                      case hi1303 => (conv => lhs; simp only [List.getElem?_toArray, List.getElem?_cons_zero, List.getElem?_cons_succ]); try exact rfl
                      case hs1303 => kernel_rfl
                      case hf1303 => kernel_rfl
                      case hr1303 => kernel_rfl
                      case hQ1303 => exact fun _ _ _ h => h
                      case hS1303 => assumption
                      case hy1303 => refine Or.inl ⟨by rfl, ?_⟩; intro w hSw; (try dsimp only at hSw); go_simp; (try with_reducible rfl)
                      simp only [Act.put, List.setIfInBounds_toArray, List.set_cons_zero, List.set_cons_succ]
                      refine wpAnyH_take (i := 3) (oi := ?oi1304) (v := ?v1304) ?hi1304 ?hs1304 ?hf1304 ?hr1304 ?hQ1304 ?hy1304 ?hS1304 ?hrest1304
                      case hi1304 => (conv => lhs; simp only [List.getElem?_toArray, List.getElem?_cons_zero, List.getElem?_cons_succ]); try exact rfl
                      case hs1304 => kernel_rfl
                      case hf1304 => kernel_rfl
                      case hr1304 => kernel_rfl
                      case hQ1304 => exact fun _ _ _ h => h
                      case hS1304 => assumption
                      case hy1304 => refine Or.inl ⟨by rfl, ?_⟩; intro w hSw; (try dsimp only at hSw); go_simp; (try with_reducible rfl)
                      simp only [Act.put, List.setIfInBounds_toArray, List.set_cons_zero, List.set_cons_succ]
                      refine wpAnyH_take (i := 4) (oi := ?oi1305) (v := ?v1305) ?hi1305 ?hs1305 ?hf1305 ?hr1305 ?hQ1305 ?hy1305 ?hS1305 ?hrest1305
                      case hi1305 => (conv => lhs; simp only [List.getElem?_toArray, List.getElem?_cons_zero, List.getElem?_cons_succ]); try exact rfl
                      case hs1305 => kernel_rfl
                      case hf1305 => kernel_rfl
                      case hr1305 => kernel_rfl
                      case hQ1305 => exact fun _ _ _ h => h
                      case hS1305 => assumption
                      case hy1305 => refine Or.inl ⟨by rfl, ?_⟩; intro w hSw; (try dsimp only at hSw); go_simp; (try with_reducible rfl)
                      simp only [Act.put, List.setIfInBounds_toArray, List.set_cons_zero, List.set_cons_succ]
                      refine wpAnyH_take (i := 5) (oi := ?oi1306) (v := ?v1306) ?hi1306 ?hs1306 ?hf1306 ?hr1306 ?hQ1306 ?hy1306 ?hS1306 ?hrest1306
                      case hi1306 => (conv => lhs; simp only [List.getElem?_toArray, List.getElem?_cons_zero, List.getElem?_cons_succ]); try exact rfl
                      case hs1306 => kernel_rfl
                      case hf1306 => kernel_rfl
                      case hr1306 => kernel_rfl
                      case hQ1306 => exact fun _ _ _ h => h
                      case hS1306 => assumption
                      case hy1306 => refine Or.inl ⟨by rfl, ?_⟩; intro w hSw; (try dsimp only at hSw); go_simp; (try with_reducible rfl)
                      simp only [Act.put, List.setIfInBounds_toArray, List.set_cons_zero, List.set_cons_succ]
                      refine wpAnyH_take (i := 6) (oi := ?oi1307) (v := ?v1307) ?hi1307 ?hs1307 ?hf1307 ?hr1307 ?hQ1307 ?hy1307 ?hS1307 ?hrest1307
                      case hi1307 => (conv => lhs; simp only [List.getElem?_toArray, List.getElem?_cons_zero, List.getElem?_cons_succ]); try exact rfl
                      case hs1307 => kernel_rfl
                      case hf1307 => kernel_rfl
                      case hr1307 => kernel_rfl
                      case hQ1307 => exact fun _ _ _ h => h
                      case hS1307 => assumption
                      case hy1307 => refine Or.inl ⟨by rfl, ?_⟩; intro w hSw; (try dsimp only at hSw); go_simp; (try with_reducible rfl)
                      simp only [Act.put, List.setIfInBounds_toArray, List.set_cons_zero, List.set_cons_succ]
                      refine wpAnyH_take (i := 7) (oi := ?oi1308) (v := ?v1308) ?hi1308 ?hs1308 ?hf1308 ?hr1308 ?hQ1308 ?hy1308 ?hS1308 ?hrest1308
                      case hi1308 => (conv => lhs; simp only [List.getElem?_toArray, List.getElem?_cons_zero, List.getElem?_cons_succ]); try exact rfl
                      case hs1308 => kernel_rfl
                      case hf1308 => kernel_rfl
                      case hr1308 => kernel_rfl
                      case hQ1308 => exact fun _ _ _ h => h
                      case hS1308 => assumption
                      case hy1308 => refine Or.inl ⟨by rfl, ?_⟩; intro w hSw; (try dsimp only at hSw); go_simp; (try with_reducible rfl)
                      simp only [Act.put, List.setIfInBounds_toArray, List.set_cons_zero, List.set_cons_succ]
                      refine wpAnyH_take (i := 8) (oi := ?oi1309) (v := ?v1309) ?hi1309 ?hs1309 ?hf1309 ?hr1309 ?hQ1309 ?hy1309 ?hS1309 ?hrest1309
                      case hi1309 => (conv => lhs; simp only [List.getElem?_toArray, List.getElem?_cons_zero, List.getElem?_cons_succ]); try exact rfl
                      case hs1309 => kernel_rfl
                      case hf1309 => kernel_rfl
                      case hr1309 => kernel_rfl
                      case hQ1309 => exact fun _ _ _ h => h
                      case hS1309 => assumption
                      case hy1309 => refine Or.inl ⟨by rfl, ?_⟩; intro w hSw; (try dsimp only at hSw); go_simp; (try with_reducible rfl)
                      simp only [Act.put, List.setIfInBounds_toArray, List.set_cons_zero, List.set_cons_succ]
                      refine wpAnyH_take (i := 9) (oi := ?oi1310) (v := ?v1310) ?hi1310 ?hs1310 ?hf1310 ?hr1310 ?hQ1310 ?hy1310 ?hS1310 ?hrest1310
                      case hi1310 => (conv => lhs; simp only [List.getElem?_toArray, List.getElem?_cons_zero, List.getElem?_cons_succ]); try exact rfl
                      case hs1310 => kernel_rfl
                      case hf1310 => kernel_rfl
                      case hr1310 => kernel_rfl
                      case hQ1310 => exact fun _ _ _ h => h
                      case hS1310 => assumption
                      case hy1310 => refine Or.inl ⟨by rfl, ?_⟩; intro w hSw; (try dsimp only at hSw); go_simp; (try with_reducible rfl)
                      simp only [Act.put, List.setIfInBounds_toArray, List.set_cons_zero, List.set_cons_succ]
                      refine wpAnyH_take (i := 10) (oi := ?oi1311) (v := ?v1311) ?hi1311 ?hs1311 ?hf1311 ?hr1311 ?hQ1311 ?hy1311 ?hS1311 ?hrest1311
                      case hi1311 => (conv => lhs; simp only [List.getElem?_toArray, List.getElem?_cons_zero, List.getElem?_cons_succ]); try exact rfl
                      case hs1311 => kernel_rfl
                      case hf1311 => kernel_rfl
                      case hr1311 => kernel_rfl
                      case hQ1311 => exact fun _ _ _ h => h
                      case hS1311 => assumption
                      case hy1311 => refine Or.inl ⟨by rfl, ?_⟩; intro w hSw; (try dsimp only at hSw); go_simp; (try with_reducible rfl)
                      simp only [Act.put, List.setIfInBounds_toArray, List.set_cons_zero, List.set_cons_succ]
                      refine wpAnyH_take (i := 11) (oi := ?oi1312) (v := ?v1312) ?hi1312 ?hs1312 ?hf1312 ?hr1312 ?hQ1312 ?hy1312 ?hS1312 ?hrest1312
                      case hi1312 => (conv => lhs; simp only [List.getElem?_toArray, List.getElem?_cons_zero, List.getElem?_cons_succ]); try exact rfl
                      case hs1312 => kernel_rfl
                      case hf1312 => kernel_rfl
                      case hr1312 => kernel_rfl
                      case hQ1312 => exact fun _ _ _ h => h
                      case hS1312 => assumption
                      case hy1312 => refine Or.inl ⟨by rfl, ?_⟩; intro w hSw; (try dsimp only at hSw); go_simp; (try with_reducible rfl)
                      simp only [Act.put, List.setIfInBounds_toArray, List.set_cons_zero, List.set_cons_succ]
                      refine wpAnyH_take (i := 12) (oi := ?oi1313) (v := ?v1313) ?hi1313 ?hs1313 ?hf1313 ?hr1313 ?hQ1313 ?hy1313 ?hS1313 ?hrest1313
                      case hi1313 => (conv => lhs; simp only [List.getElem?_toArray, List.getElem?_cons_zero, List.getElem?_cons_succ]); try exact rfl
                      case hs1313 => kernel_rfl
                      case hf1313 => kernel_rfl
                      case hr1313 => kernel_rfl
                      case hQ1313 => exact fun _ _ _ h => h
                      case hS1313 => assumption
                      case hy1313 => refine Or.inl ⟨by rfl, ?_⟩; intro w hSw; (try dsimp only at hSw); go_simp; (try with_reducible rfl)
                      simp only [Act.put, List.setIfInBounds_toArray, List.set_cons_zero, List.set_cons_succ]
                      refine wpAnyH_take (i := 13) (oi := ?oi1314) (v := ?v1314) ?hi1314 ?hs1314 ?hf1314 ?hr1314 ?hQ1314 ?hy1314 ?hS1314 ?hrest1314
                      case hi1314 => (conv => lhs; simp only [List.getElem?_toArray, List.getElem?_cons_zero, List.getElem?_cons_succ]); try exact rfl
                      case hs1314 => kernel_rfl
                      case hf1314 => kernel_rfl
                      case hr1314 => kernel_rfl
                      case hQ1314 => exact fun _ _ _ h => h
                      case hS1314 => assumption
                      case hy1314 => refine Or.inl ⟨by rfl, ?_⟩; intro w hSw; (try dsimp only at hSw); go_simp; (try with_reducible rfl)
                      simp only [Act.put, List.setIfInBounds_toArray, List.set_cons_zero, List.set_cons_succ]
                      refine wpAnyH_take (i := 14) (oi := ?oi1315) (v := ?v1315) ?hi1315 ?hs1315 ?hf1315 ?hr1315 ?hQ1315 ?hy1315 ?hS1315 ?hrest1315
                      case hi1315 => (conv => lhs; simp only [List.getElem?_toArray, List.getElem?_cons_zero, List.getElem?_cons_succ]); try exact rfl
                      case hs1315 => kernel_rfl
                      case hf1315 => kernel_rfl
                      case hr1315 => kernel_rfl
                      case hQ1315 => exact fun _ _ _ h => h
                      case hS1315 => assumption
                      case hy1315 => refine Or.inl ⟨by rfl, ?_⟩; intro w hSw; (try dsimp only at hSw); go_simp; (try with_reducible rfl)
                      simp only [Act.put, List.setIfInBounds_toArray, List.set_cons_zero, List.set_cons_succ]
                      refine wpAnyH_take (i := 15) (oi := ?oi1316) (v := ?v1316) ?hi1316 ?hs1316 ?hf1316 ?hr1316 ?hQ1316 ?hy1316 ?hS1316 ?hrest1316
                      case hi1316 => (conv => lhs; simp only [List.getElem?_toArray, List.getElem?_cons_zero, List.getElem?_cons_succ]); try exact rfl
                      case hs1316 => kernel_rfl
                      case hf1316 => kernel_rfl
                      case hr1316 => kernel_rfl
                      case hQ1316 => exact fun _ _ _ h => h
                      case hS1316 => assumption
                      case hy1316 => refine Or.inl ⟨by rfl, ?_⟩; intro w hSw; (try dsimp only at hSw); go_simp; (try with_reducible rfl)
                      simp only [Act.put, List.setIfInBounds_toArray, List.set_cons_zero, List.set_cons_succ]
                      refine wpAnyH_take (i := 16) (oi := ?oi1317) (v := ?v1317) ?hi1317 ?hs1317 ?hf1317 ?hr1317 ?hQ1317 ?hy1317 ?hS1317 ?hrest1317
                      case hi1317 => (conv => lhs; simp only [List.getElem?_toArray, List.getElem?_cons_zero, List.getElem?_cons_succ]); try exact rfl
                      case hs1317 => kernel_rfl
                      case hf1317 => kernel_rfl
                      case hr1317 => kernel_rfl
                      case hQ1317 => exact fun _ _ _ h => h
                      case hS1317 => assumption
                      case hy1317 => refine Or.inl ⟨by rfl, ?_⟩; intro w hSw; (try dsimp only at hSw); go_simp; (try with_reducible rfl)
                      simp only [Act.put, List.setIfInBounds_toArray, List.set_cons_zero, List.set_cons_succ]
                      refine wpAnyH_take (i := 17) (oi := ?oi1318) (v := ?v1318) ?hi1318 ?hs1318 ?hf1318 ?hr1318 ?hQ1318 ?hy1318 ?hS1318 ?hrest1318
                      case hi1318 => (conv => lhs; simp only [List.getElem?_toArray, List.getElem?_cons_zero, List.getElem?_cons_succ]); try exact rfl
                      case hs1318 => kernel_rfl
                      case hf1318 => kernel_rfl
                      case hr1318 => kernel_rfl
                      case hQ1318 => exact fun _ _ _ h => h
                      case hS1318 => assumption
                      case hy1318 => refine Or.inl ⟨by rfl, ?_⟩; intro w hSw; (try dsimp only at hSw); go_simp; (try with_reducible rfl)
                      simp only [Act.put, List.setIfInBounds_toArray, List.set_cons_zero, List.set_cons_succ]
                      refine wpAnyH_take (i := 18) (oi := ?oi1319) (v := ?v1319) ?hi1319 ?hs1319 ?hf1319 ?hr1319 ?hQ1319 ?hy1319 ?hS1319 ?hrest1319
                      case hi1319 => (conv => lhs; simp only [List.getElem?_toArray, List.getElem?_cons_zero, List.getElem?_cons_succ]); try exact rfl
                      case hs1319 => kernel_rfl
                      case hf1319 => kernel_rfl
                      case hr1319 => kernel_rfl
                      case hQ1319 => exact fun _ _ _ h => h
                      case hS1319 => assumption
                      case hy1319 => refine Or.inl ⟨by rfl, ?_⟩; intro w hSw; (try dsimp only at hSw); go_simp; (try with_reducible rfl)
                      simp only [Act.put, List.setIfInBounds_toArray, List.set_cons_zero, List.set_cons_succ]
                      refine wpAnyH_take (i := 19) (oi := ?oi1320) (v := ?v1320) ?hi1320 ?hs1320 ?hf1320 ?hr1320 ?hQ1320 ?hy1320 ?hS1320 ?hrest1320
                      case hi1320 => (conv => lhs; simp only [List.getElem?_toArray, List.getElem?_cons_zero, List.getElem?_cons_succ]); try exact rfl
                      case hs1320 => kernel_rfl
                      case hf1320 => kernel_rfl
                      case hr1320 => kernel_rfl
                      case hQ1320 => exact fun _ _ _ h => h
                      case hS1320 => assumption
                      case hy1320 => refine Or.inl ⟨by rfl, ?_⟩; intro w hSw; (try dsimp only at hSw); go_simp; (try with_reducible rfl)
                      simp only [Act.put, List.setIfInBounds_toArray, List.set_cons_zero, List.set_cons_succ]
                      refine wpAnyH_take (i := 20) (oi := ?oi1321) (v := ?v1321) ?hi1321 ?hs1321 ?hf1321 ?hr1321 ?hQ1321 ?hy1321 ?hS1321 ?hrest1321
                      case hi1321 => (conv => lhs; simp only [List.getElem?_toArray, List.getElem?_cons_zero, List.getElem?_cons_succ]); try exact rfl
                      case hs1321 => kernel_rfl
                      case hf1321 => kernel_rfl
                      case hr1321 => kernel_rfl
                      case hQ1321 => exact fun _ _ _ h => h
                      case hS1321 => assumption
                      case hy1321 => refine Or.inl ⟨by rfl, ?_⟩; intro w hSw; (try dsimp only at hSw); go_simp; (try with_reducible rfl)
                      simp only [Act.put, List.setIfInBounds_toArray, List.set_cons_zero, List.set_cons_succ]
                      refine wpAnyH_take (i := 21) (oi := ?oi1322) (v := ?v1322) ?hi1322 ?hs1322 ?hf1322 ?hr1322 ?hQ1322 ?hy1322 ?hS1322 ?hrest1322
                      case hi1322 => (conv => lhs; simp only [List.getElem?_toArray, List.getElem?_cons_zero, List.getElem?_cons_succ]); try exact rfl
                      case hs1322 => kernel_rfl
                      case hf1322 => kernel_rfl
                      case hr1322 => kernel_rfl
                      case hQ1322 => exact fun _ _ _ h => h
                      case hS1322 => assumption
                      case hy1322 => refine Or.inl ⟨by rfl, ?_⟩; intro w hSw; (try dsimp only at hSw); go_simp; (try with_reducible rfl)
                      simp only [Act.put, List.setIfInBounds_toArray, List.set_cons_zero, List.set_cons_succ]
                      refine wpAnyH_take (i := 22) (oi := ?oi1323) (v := ?v1323) ?hi1323 ?hs1323 ?hf1323 ?hr1323 ?hQ1323 ?hy1323 ?hS1323 ?hrest1323
                      case hi1323 => (conv => lhs; simp only [List.getElem?_toArray, List.getElem?_cons_zero, List.getElem?_cons_succ]); try exact rfl
                      case hs1323 => kernel_rfl
                      case hf1323 => kernel_rfl
                      case hr1323 => kernel_rfl
                      case hQ1323 => exact fun _ _ _ h => h
                      case hS1323 => assumption
                      case hy1323 => refine Or.inl ⟨by rfl, ?_⟩; intro w hSw; (try dsimp only at hSw); go_simp; (try with_reducible rfl)
                      simp only [Act.put, List.setIfInBounds_toArray, List.set_cons_zero, List.set_cons_succ]
                      refine wpAnyH_take (i := 23) (oi := ?oi1324) (v := ?v1324) ?hi1324 ?hs1324 ?hf1324 ?hr1324 ?hQ1324 ?hy1324 ?hS1324 ?hrest1324
                      case hi1324 => (conv => lhs; simp only [List.getElem?_toArray, List.getElem?_cons_zero, List.getElem?_cons_succ]); try exact rfl
                      case hs1324 => kernel_rfl
                      case hf1324 => kernel_rfl
                      case hr1324 => kernel_rfl
                      case hQ1324 => exact fun _ _ _ h => h
                      case hS1324 => assumption
                      case hy1324 => refine Or.inl ⟨by rfl, ?_⟩; intro w hSw; (try dsimp only at hSw); go_simp; (try with_reducible rfl)
                      simp only [Act.put, List.setIfInBounds_toArray, List.set_cons_zero, List.set_cons_succ]
                      refine wpAnyH_take (i := 24) (oi := ?oi1325) (v := ?v1325) ?hi1325 ?hs1325 ?hf1325 ?hr1325 ?hQ1325 ?hy1325 ?hS1325 ?hrest1325
                      case hi1325 => (conv => lhs; simp only [List.getElem?_toArray, List.getElem?_cons_zero, List.getElem?_cons_succ]); try exact rfl
                      case hs1325 => kernel_rfl
                      case hf1325 => kernel_rfl
                      case hr1325 => kernel_rfl
                      case hQ1325 => exact fun _ _ _ h => h
                      case hS1325 => assumption
                      case hy1325 => refine Or.inl ⟨by rfl, ?_⟩; intro w hSw; (try dsimp only at hSw); go_simp; (try with_reducible rfl)
                      simp only [Act.put, List.setIfInBounds_toArray, List.set_cons_zero, List.set_cons_succ]
                      refine wpAnyH_take (i := 25) (oi := ?oi1326) (v := ?v1326) ?hi1326 ?hs1326 ?hf1326 ?hr1326 ?hQ1326 ?hy1326 ?hS1326 ?hrest1326
                      case hi1326 => (conv => lhs; simp only [List.getElem?_toArray, List.getElem?_cons_zero, List.getElem?_cons_succ]); try exact rfl
                      case hs1326 => kernel_rfl
                      case hf1326 => kernel_rfl
                      case hr1326 => kernel_rfl
                      case hQ1326 => exact fun _ _ _ h => h
                      case hS1326 => assumption
                      case hy1326 => refine Or.inl ⟨by rfl, ?_⟩; intro w hSw; (try dsimp only at hSw); go_simp; (try with_reducible rfl)
                      simp only [Act.put, List.setIfInBounds_toArray, List.set_cons_zero, List.set_cons_succ]
                      refine wpAnyH_take (i := 26) (oi := ?oi1327) (v := ?v1327) ?hi1327 ?hs1327 ?hf1327 ?hr1327 ?hQ1327 ?hy1327 ?hS1327 ?hrest1327
                      case hi1327 => (conv => lhs; simp only [List.getElem?_toArray, List.getElem?_cons_zero, List.getElem?_cons_succ]); try exact rfl
                      case hs1327 => kernel_rfl
                      case hf1327 => kernel_rfl
                      case hr1327 => kernel_rfl
                      case hQ1327 => exact fun _ _ _ h => h
                      case hS1327 => assumption
                      case hy1327 => refine Or.inl ⟨by rfl, ?_⟩; intro w hSw; (try dsimp only at hSw); go_simp; (try with_reducible rfl)
                      simp only [Act.put, List.setIfInBounds_toArray, List.set_cons_zero, List.set_cons_succ]
                      refine wpAnyH_take (i := 27) (oi := ?oi1328) (v := ?v1328) ?hi1328 ?hs1328 ?hf1328 ?hr1328 ?hQ1328 ?hy1328 ?hS1328 ?hrest1328
                      case hi1328 => (conv => lhs; simp only [List.getElem?_toArray, List.getElem?_cons_zero, List.getElem?_cons_succ]); try exact rfl
                      case hs1328 => kernel_rfl
                      case hf1328 => kernel_rfl
                      case hr1328 => kernel_rfl
                      case hQ1328 => exact fun _ _ _ h => h
                      case hS1328 => assumption
                      case hy1328 => refine Or.inl ⟨by rfl, ?_⟩; intro w hSw; (try dsimp only at hSw); go_simp; (try with_reducible rfl)
                      simp only [Act.put, List.setIfInBounds_toArray, List.set_cons_zero, List.set_cons_succ]
                      refine wpAnyH_take (i := 28) (oi := ?oi1329) (v := ?v1329) ?hi1329 ?hs1329 ?hf1329 ?hr1329 ?hQ1329 ?hy1329 ?hS1329 ?hrest1329
                      case hi1329 => (conv => lhs; simp only [List.getElem?_toArray, List.getElem?_cons_zero, List.getElem?_cons_succ]); try exact rfl
                      case hs1329 => kernel_rfl
                      case hf1329 => kernel_rfl
                      case hr1329 => kernel_rfl
                      case hQ1329 => exact fun _ _ _ h => h
                      case hS1329 => assumption
                      case hy1329 => refine Or.inl ⟨by rfl, ?_⟩; intro w hSw; (try dsimp only at hSw); go_simp; (try with_reducible rfl)
                      simp only [Act.put, List.setIfInBounds_toArray, List.set_cons_zero, List.set_cons_succ]
                      refine wpAnyH_take (i := 29) (oi := ?oi1330) (v := ?v1330) ?hi1330 ?hs1330 ?hf1330 ?hr1330 ?hQ1330 ?hy1330 ?hS1330 ?hrest1330
                      case hi1330 => (conv => lhs; simp only [List.getElem?_toArray, List.getElem?_cons_zero, List.getElem?_cons_succ]); try exact rfl
                      case hs1330 => kernel_rfl
                      case hf1330 => kernel_rfl
                      case hr1330 => kernel_rfl
                      case hQ1330 => exact fun _ _ _ h => h
                      case hS1330 => assumption
                      case hy1330 => refine Or.inl ⟨by rfl, ?_⟩; intro w hSw; (try dsimp only at hSw); go_simp; (try with_reducible rfl)
                      simp only [Act.put, List.setIfInBounds_toArray, List.set_cons_zero, List.set_cons_succ]
                      refine wpAnyH_take (i := 30) (oi := ?oi1331) (v := ?v1331) ?hi1331 ?hs1331 ?hf1331 ?hr1331 ?hQ1331 ?hy1331 ?hS1331 ?hrest1331
                      case hi1331 => (conv => lhs; simp only [List.getElem?_toArray, List.getElem?_cons_zero, List.getElem?_cons_succ]); try exact rfl
                      case hs1331 => kernel_rfl
                      case hf1331 => kernel_rfl
                      case hr1331 => kernel_rfl
                      case hQ1331 => exact fun _ _ _ h => h
                      case hS1331 => assumption
                      case hy1331 => refine Or.inl ⟨by rfl, ?_⟩; intro w hSw; (try dsimp only at hSw); go_simp; (try with_reducible rfl)
                      simp only [Act.put, List.setIfInBounds_toArray, List.set_cons_zero, List.set_cons_succ]
                      refine wpAnyH_take (i := 31) (oi := ?oi1332) (v := ?v1332) ?hi1332 ?hs1332 ?hf1332 ?hr1332 ?hQ1332 ?hy1332 ?hS1332 ?hrest1332
                      case hi1332 => (conv => lhs; simp only [List.getElem?_toArray, List.getElem?_cons_zero, List.getElem?_cons_succ]); try exact rfl
                      case hs1332 => kernel_rfl
                      case hf1332 => kernel_rfl
                      case hr1332 => kernel_rfl
                      case hQ1332 => exact fun _ _ _ h => h
                      case hS1332 => assumption
                      case hy1332 => refine Or.inl ⟨by rfl, ?_⟩; intro w hSw; (try dsimp only at hSw); go_simp; (try with_reducible rfl)
                      simp only [Act.put, List.setIfInBounds_toArray, List.set_cons_zero, List.set_cons_succ]
                      refine wpAnyH_take (i := 32) (oi := ?oi1333) (v := ?v1333) ?hi1333 ?hs1333 ?hf1333 ?hr1333 ?hQ1333 ?hy1333 ?hS1333 ?hrest1333
                      case hi1333 => (conv => lhs; simp only [List.getElem?_toArray, List.getElem?_cons_zero, List.getElem?_cons_succ]); try exact rfl
                      case hs1333 => kernel_rfl
                      case hf1333 => kernel_rfl
                      case hr1333 => kernel_rfl
                      case hQ1333 => exact fun _ _ _ h => h
                      case hS1333 => assumption
                      case hy1333 => refine Or.inl ⟨by rfl, ?_⟩; intro w hSw; (try dsimp only at hSw); go_simp; (try with_reducible rfl)
                      simp only [Act.put, List.setIfInBounds_toArray, List.set_cons_zero, List.set_cons_succ]
                      refine wpAnyH_take (i := 33) (oi := ?oi1334) (v := ?v1334) ?hi1334 ?hs1334 ?hf1334 ?hr1334 ?hQ1334 ?hy1334 ?hS1334 ?hrest1334
                      case hi1334 => (conv => lhs; simp only [List.getElem?_toArray, List.getElem?_cons_zero, List.getElem?_cons_succ]); try exact rfl
                      case hs1334 => kernel_rfl
                      case hf1334 => kernel_rfl
                      case hr1334 => kernel_rfl
                      case hQ1334 => exact fun _ _ _ h => h
                      case hS1334 => assumption
                      case hy1334 => refine Or.inl ⟨by rfl, ?_⟩; intro w hSw; (try dsimp only at hSw); go_simp; (try with_reducible rfl)
                      simp only [Act.put, List.setIfInBounds_toArray, List.set_cons_zero, List.set_cons_succ]
                      refine wpAnyH_take (i := 34) (oi := ?oi1335) (v := ?v1335) ?hi1335 ?hs1335 ?hf1335 ?hr1335 ?hQ1335 ?hy1335 ?hS1335 ?hrest1335
                      case hi1335 => (conv => lhs; simp only [List.getElem?_toArray, List.getElem?_cons_zero, List.getElem?_cons_succ]); try exact rfl
                      case hs1335 => kernel_rfl
                      case hf1335 => kernel_rfl
                      case hr1335 => kernel_rfl
                      case hQ1335 => exact fun _ _ _ h => h
                      case hS1335 => assumption
                      case hy1335 => refine Or.inl ⟨by rfl, ?_⟩; intro w hSw; (try dsimp only at hSw); go_simp; (try with_reducible rfl)
                      simp only [Act.put, List.setIfInBounds_toArray, List.set_cons_zero, List.set_cons_succ]
                      refine wpAnyH_take (i := 35) (oi := ?oi1336) (v := ?v1336) ?hi1336 ?hs1336 ?hf1336 ?hr1336 ?hQ1336 ?hy1336 ?hS1336 ?hrest1336
                      case hi1336 => (conv => lhs; simp only [List.getElem?_toArray, List.getElem?_cons_zero, List.getElem?_cons_succ]); try exact rfl
                      case hs1336 => kernel_rfl
                      case hf1336 => kernel_rfl
                      case hr1336 => kernel_rfl
                      case hQ1336 => exact fun _ _ _ h => h
                      case hS1336 => assumption
                      case hy1336 => refine Or.inl ⟨by rfl, ?_⟩; intro w hSw; (try dsimp only at hSw); go_simp; (try with_reducible rfl)
                      simp only [Act.put, List.setIfInBounds_toArray, List.set_cons_zero, List.set_cons_succ]
                      refine wpAnyH_take (i := 36) (oi := ?oi1337) (v := ?v1337) ?hi1337 ?hs1337 ?hf1337 ?hr1337 ?hQ1337 ?hy1337 ?hS1337 ?hrest1337
                      case hi1337 => (conv => lhs; simp only [List.getElem?_toArray, List.getElem?_cons_zero, List.getElem?_cons_succ]); try exact rfl
                      case hs1337 => kernel_rfl
                      case hf1337 => kernel_rfl
                      case hr1337 => kernel_rfl
                      case hQ1337 => exact fun _ _ _ h => h
                      case hS1337 => assumption
                      case hy1337 => refine Or.inl ⟨by rfl, ?_⟩; intro w hSw; (try dsimp only at hSw); go_simp; (try with_reducible rfl)
                      simp only [Act.put, List.setIfInBounds_toArray, List.set_cons_zero, List.set_cons_succ]
                      refine wpAnyH_take (i := 37) (oi := ?oi1338) (v := ?v1338) ?hi1338 ?hs1338 ?hf1338 ?hr1338 ?hQ1338 ?hy1338 ?hS1338 ?hrest1338
                      case hi1338 => (conv => lhs; simp only [List.getElem?_toArray, List.getElem?_cons_zero, List.getElem?_cons_succ]); try exact rfl
                      case hs1338 => kernel_rfl
                      case hf1338 => kernel_rfl
                      case hr1338 => kernel_rfl
                      case hQ1338 => exact fun _ _ _ h => h
                      case hS1338 => assumption
                      case hy1338 => refine Or.inl ⟨by rfl, ?_⟩; intro w hSw; (try dsimp only at hSw); go_simp; (try with_reducible rfl)
                      simp only [Act.put, List.setIfInBounds_toArray, List.set_cons_zero, List.set_cons_succ]
                      refine wpAnyH_take (i := 38) (oi := ?oi1339) (v := ?v1339) ?hi1339 ?hs1339 ?hf1339 ?hr1339 ?hQ1339 ?hy1339 ?hS1339 ?hrest1339
                      case hi1339 => (conv => lhs; simp only [List.getElem?_toArray, List.getElem?_cons_zero, List.getElem?_cons_succ]); try exact rfl
                      case hs1339 => kernel_rfl
                      case hf1339 => kernel_rfl
                      case hr1339 => kernel_rfl
                      case hQ1339 => exact fun _ _ _ h => h
                      case hS1339 => assumption
                      case hy1339 => refine Or.inl ⟨by rfl, ?_⟩; intro w hSw; (try dsimp only at hSw); go_simp; (try with_reducible rfl)
                      simp only [Act.put, List.setIfInBounds_toArray, List.set_cons_zero, List.set_cons_succ]
                      refine wpAnyH_take (i := 39) (oi := ?oi1340) (v := ?v1340) ?hi1340 ?hs1340 ?hf1340 ?hr1340 ?hQ1340 ?hy1340 ?hS1340 ?hrest1340
                      case hi1340 => (conv => lhs; simp only [List.getElem?_toArray, List.getElem?_cons_zero, List.getElem?_cons_succ]); try exact rfl
                      case hs1340 => kernel_rfl
                      case hf1340 => kernel_rfl
                      case hr1340 => kernel_rfl
                      case hQ1340 => exact fun _ _ _ h => h
                      case hS1340 => assumption
                      case hy1340 => refine Or.inl ⟨by rfl, ?_⟩; intro w hSw; (try dsimp only at hSw); go_simp; (try with_reducible rfl)
                      simp only [Act.put, List.setIfInBounds_toArray, List.set_cons_zero, List.set_cons_succ]
                      refine wpAnyH_done (by kernel_rfl) ?_ _
                      go_wp2
                      first
                        | exact ⟨⟨j + 1, by omega, by omega, by go_num, hb13⟩, by simp [intOf]; omega⟩
                        | (go_roundw; case rel => exact ⟨j + 1, by omega, by omega, by go_num, hb13⟩; case measure => (simp [intOf]; omega))
                  · have hjn2 : ¬ ((j : Int) < (W.length : Int)) := by omega
                    have FR9 := Lib.hid (FR8.out.bl hbel)
                    have Own9 := Lib.hid (own_below Own8.out hbel (Nat.le_refl _))
                    have BW9 := Lib.hid (belN BW8.out hbel)
                    go_wp2
                    first
                      | exact ⟨⟨A5, m5, c5, i + 1, ps', W, rfl, by go_num, by omega, hW5, FR9.out, INV5.out, Own9.out, BW9.out⟩, by simp [intOf]; omega⟩
                      | (go_roundw; case rel => exact ⟨A5, m5, c5, i + 1, ps', W, rfl, by go_num, by omega, hW5, FR9.out, INV5.out, Own9.out, BW9.out⟩; case measure => (simp [intOf]; omega))
          case first => as_aux_lemma =>
            by_cases h3 : x3 % 3 = 0
            · have e3 : (x3 % 3 == 0) = true := by simp; omega
              go_wp2_with fail
              refine (pgDrop_impl A3 m3 c3 ps H K hok w4 FR.out.at_).mono ?_
              rintro e w5 ⟨A5, m5, c5, ps', b, rfl, hd, hfr, hb5⟩
              have FR5 := Lib.hid (hfr.mono (Nat.zero_le _))
              have Own5 := Lib.hid (own_below Own.out hb5 (Nat.le_refl _))
              have BW5 := Lib.hid (belN BW.out hb5)
              clear hfr e3 h3 mt3
              rcases inv_drop INV.out hd with ⟨rfl, rfl, hno⟩ | ⟨rfl, hex, hinv⟩
              · have hR : R < 0 := Int.not_le.1 fun h => by
                  obtain ⟨k, hk, _, hkk⟩ := here_yes HR.out (by omega)
                  exact hno _ (List.getElem_mem hk) hkk
                have hR2 : ¬ (R ≥ 0) := by omega
                have hR3 : ¬ (0 ≤ R) := by omega
                have INV5 := Lib.hid INV.out
                have hW5 : W.length ≤ i + 1 := by omega
                clear hno hd hb5 hcu
                go_wp2_with fail
                go_meet
                case rel => exact ⟨A5, m5, c5, ps', W, Au, cu, rfl, rfl, hW5, FR5, INV5, Own5, BW5⟩
              · have hR : ¬ R < 0 := fun h => by
                  obtain ⟨x, hx, hkx⟩ := hex
                  exact here_no HR.out h x hx hkx
                obtain ⟨i0, hi0, rfl, hk0⟩ := here_yes HR.out hR
                have hR2 : (i0 : Int) ≥ 0 := by omega
                have hI := Lib.hid (hinv i0 hi0 hk0)
                obtain ⟨gw, cw, hgw⟩ := own_form1 Own5.out (by omega)
                simp only [Value.slice.injEq, true_and] at hgw
                obtain ⟨rfl, rfl⟩ := hgw
                have wi0 : IntKind.i64.wrap ((i0 : Int) + 1) = (i0 : Int) + 1 := by rw [IntKind.wrap_i64]; omega
                have ti0 : ((i0 : Int) + 1).toNat = i0 + 1 := by omega
                have k0 : (0 : Int) ≤ (i0 : Int) + 1 := by omega
                have k1 : (i0 : Int) + 1 ≤ (W.length : Int) := by omega
                have k2 : (i0 : Int) ≤ (cu : Int) := by omega
                have k3 : i0 ≤ cu := by omega
                have k4 : i0 + 1 ≤ W.length := by omega
                obtain ⟨A87, hA87, hR87⟩ : ∃ A, (if cu = i0 + 1 then (some ⟨gw, 0, none⟩ : Option Addr) else some ⟨gw, (i0 + 1) * 4, none⟩) = A ∧ Hid (Reads w5 w5.heap.size 4 A (W.length - (i0 + 1)) (ES (W.drop (i0 + 1)))) := by
                  by_cases h : cu = i0 + 1
                  · exact ⟨some ⟨gw, 0, none⟩, by rw [if_pos h], by rw [ES_length, List.length_drop], fun h' => by omega⟩
                  · exact ⟨some ⟨gw, (i0 + 1) * 4, none⟩, by rw [if_neg h], by rw [ES_length, List.length_drop], fun _ => ⟨_, rfl, (Own5.out.lt gw rfl).2, fun j u hu => own_src Own5.out ((i0 + 1) * 4) j u (by rw [ES_drop]; exact hu)⟩⟩
                have hR82 := Lib.hid (show Reads w5 w5.heap.size 4 (some ⟨gw, 0, none⟩) i0 (ES (W.take i0)) by
                  have := reads_take (Reads.of_own Own5.out) i0 (by omega)
                  rwa [ES_take] at this)
                have OL := Lib.hid (World.ownsRow_lit (e := 28) (size := 4) w5.drew #[] 0 (Nat.le_refl _) (by unfold maxLen; omega) rfl)
                have BL := Lib.hid (belA (bel0 w5).drew (.cells #[] 28))
                have hWl : W.length ≤ 100 := by omega
                clear hex hinv hd hR hk0 hi0
                go_wp2_with fail
                refine wp_region_held_drew (S := fun _ => True) (by kernel_rfl) trivial (fun hHeld => ?_)
                refine wpAnyH_take (i := 1) (oi := ?oi1) (v := ?v1) ?hi1 ?hs1 ?hf1 ?hr1 ?hQ1 ?hy1 ?hS1 ?hrest1
                case hi1 => (conv => lhs; simp only [List.getElem?_toArray, List.getElem?_cons_zero, List.getElem?_cons_succ]); try exact rfl
                case hs1 => kernel_rfl
                case hf1 => kernel_rfl
                case hr1 => kernel_rfl
                case hQ1 => exact fun _ _ _ h => h
                case hS1 => assumption
                case hy1 => refine Or.inl ⟨by rfl, ?_⟩; intro w hSw; (try dsimp only at hSw); go_simp; (try with_reducible rfl)
                simp only [Act.put, List.setIfInBounds_toArray, List.set_cons_zero, List.set_cons_succ]
                refine wpAnyH_take (i := 2) (oi := ?oi2) (v := ?v2) ?hi2 ?hs2 ?hf2 ?hr2 ?hQ2 ?hy2 ?hS2 ?hrest2
                case hi2 => (conv => lhs; simp only [List.getElem?_toArray, List.getElem?_cons_zero, List.getElem?_cons_succ]); try exact rfl
                case hs2 => kernel_rfl
                case hf2 => kernel_rfl
                case hr2 => kernel_rfl
                case hQ2 => exact fun _ _ _ h => h
                case hS2 => assumption
                case hy2 => refine Or.inl ⟨by rfl, ?_⟩; intro w hSw; (try dsimp only at hSw); go_simp; (try with_reducible rfl)
                simp only [Act.put, List.setIfInBounds_toArray, List.set_cons_zero, List.set_cons_succ]
                refine wpAnyH_take (i := 3) (oi := ?oi3) (v := ?v3) ?hi3 ?hs3 ?hf3 ?hr3 ?hQ3 ?hy3 ?hS3 ?hrest3
                case hi3 => (conv => lhs; simp only [List.getElem?_toArray, List.getElem?_cons_zero, List.getElem?_cons_succ]); try exact rfl
                case hs3 => kernel_rfl
                case hf3 => kernel_rfl
                case hr3 => kernel_rfl
                case hQ3 => exact fun _ _ _ h => h
                case hS3 => assumption
                case hy3 => refine Or.inl ⟨by rfl, ?_⟩; intro w hSw; (try dsimp only at hSw); go_simp; (try with_reducible rfl)
                simp only [Act.put, List.setIfInBounds_toArray, List.set_cons_zero, List.set_cons_succ]
                refine wpAnyH_take (i := 5) (oi := ?oi4) (v := ?v4) ?hi4 ?hs4 ?hf4 ?hr4 ?hQ4 ?hy4 ?hS4 ?hrest4
                case hi4 => (conv => lhs; simp only [List.getElem?_toArray, List.getElem?_cons_zero, List.getElem?_cons_succ]); try exact rfl
                case hs4 => kernel_rfl
                case hf4 => kernel_rfl
                case hr4 => kernel_rfl
                case hQ4 => exact fun _ _ _ h => h
                case hS4 => assumption
                case hy4 => refine Or.inl ⟨by rfl, ?_⟩; intro w hSw; (try dsimp only at hSw); go_simp; (try with_reducible rfl)
                simp only [Act.put, List.setIfInBounds_toArray, List.set_cons_zero, List.set_cons_succ]
                refine wpAnyH_take (i := 6) (oi := ?oi5) (v := ?v5) ?hi5 ?hs5 ?hf5 ?hr5 ?hQ5 ?hy5 ?hS5 ?hrest5
                case hi5 => (conv => lhs; simp only [List.getElem?_toArray, List.getElem?_cons_zero, List.getElem?_cons_succ]); try exact rfl
                case hs5 => kernel_rfl
                case hf5 => kernel_rfl
                case hr5 => kernel_rfl
                case hQ5 => exact fun _ _ _ h => h
                case hS5 => assumption
                case hy5 => refine Or.inl ⟨by rfl, ?_⟩; intro w hSw; (try dsimp only at hSw); go_simp; (try with_reducible rfl)
                simp only [Act.put, List.setIfInBounds_toArray, List.set_cons_zero, List.set_cons_succ]
                refine wpAnyH_take (i := 7) (oi := ?oi6) (v := ?v6) ?hi6 ?hs6 ?hf6 ?hr6 ?hQ6 ?hy6 ?hS6 ?hrest6
                case hi6 => (conv => lhs; simp only [List.getElem?_toArray, List.getElem?_cons_zero, List.getElem?_cons_succ]); try exact rfl
                case hs6 => kernel_rfl
                case hf6 => kernel_rfl
                case hr6 => kernel_rfl
                case hQ6 => exact fun _ _ _ h => h
                case hS6 => assumption
                case hy6 => refine Or.inl ⟨by rfl, ?_⟩; intro w hSw; (try dsimp only at hSw); go_simp; (try with_reducible rfl)
                simp only [Act.put, List.setIfInBounds_toArray, List.set_cons_zero, List.set_cons_succ]
                refine wpAnyH_take (i := 8) (oi := ?oi7) (v := ?v7) ?hi7 ?hs7 ?hf7 ?hr7 ?hQ7 ?hy7 ?hS7 ?hrest7
                case hi7 => (conv => lhs; simp only [List.getElem?_toArray, List.getElem?_cons_zero, List.getElem?_cons_succ]); try exact rfl
                case hs7 => kernel_rfl
                case hf7 => kernel_rfl
                case hr7 => kernel_rfl
                case hQ7 => exact fun _ _ _ h => h
                case hS7 => assumption
                case hy7 => refine Or.inl ⟨by rfl, ?_⟩; intro w hSw; (try dsimp only at hSw); go_simp; (try with_reducible rfl)
                simp only [Act.put, List.setIfInBounds_toArray, List.set_cons_zero, List.set_cons_succ]
                refine wpAnyH_ready (rs := [0]) (by kernel_rfl) (by simp) ?_
                refine AllReadyH.cons (o := ?oi8) ?hi8 (fun K hK => ?_) AllReadyH.nil
                case hi8 => (conv => lhs; simp only [List.getElem?_toArray, List.getElem?_cons_zero]); try exact rfl
                go_simp
                refine hK.out _ _ trivial (fun hHeld8 => ?_)
                clear hK K
                try simp only [Act.put, List.setIfInBounds_toArray, List.set_cons_zero, List.set_cons_succ]
                refine wpAnyH_ready (rs := [4]) (by kernel_rfl) (by simp) ?_
                refine AllReadyH.cons (o := ?oi9) ?hi9 (fun K hK => ?_) AllReadyH.nil
                case hi9 => (conv => lhs; simp only [List.getElem?_toArray, List.getElem?_cons_zero, List.getElem?_cons_succ]); try exact rfl
                refine step_app _ (by rfl) _ _ 25 (by rfl) Try.el_ent OL.out (by rfl) ((hR82.out.below BL.out).more BL.out.size) (by rfl) (ES_cells (W.take i0)) (max_small (by omega)) (by omega) (by first | omega | (simp; done) | (simp; omega)) ?_
                intro v83 w83 own83 hg83 _ hb83
                have sz83 : w5.heap.size ≤ w83.heap.size := (BL.out.trans hb83).size
                have Own83 := Lib.hid own83
                have hR87b := Lib.hid ((hR87.out.below (BL.out.trans hb83)).more (BL.out.trans hb83).size)
                clear own83 hg83
                try simp only [Act.put, List.setIfInBounds_toArray, List.set_cons_zero, List.set_cons_succ]
                refine hK.out _ _ trivial (fun hHeld9 => ?_)
                clear hK K
                try simp only [Act.put, List.setIfInBounds_toArray, List.set_cons_zero, List.set_cons_succ]
                refine wpAnyH_ready (rs := [9]) (by kernel_rfl) (by simp) ?_
                refine AllReadyH.cons (o := ?oi10) ?hi10 (fun K hK => ?_) AllReadyH.nil
                case hi10 => (conv => lhs; simp only [List.getElem?_toArray, List.getElem?_cons_zero, List.getElem?_cons_succ]); try exact rfl
                refine step_app _ (by rfl) _ _ 25 (by rfl) Try.el_ent Own83.out (by rfl) hR87b.out (by rfl) (ES_cells (W.drop (i0 + 1))) (max_small (by omega)) (by omega) (by first | omega | (simp; done) | (simp; omega)) ?_
                intro v88 w88 own88 hg88 _ hb88
                have l5 : w.heap.size ≤ w5.heap.size := BW5.out.size
                try simp only [Act.put, List.setIfInBounds_toArray, List.set_cons_zero, List.set_cons_succ]
                refine hK.out _ _ trivial (fun hHeld10 => ?_)
                clear hK K
                try simp only [Act.put, List.setIfInBounds_toArray, List.set_cons_zero, List.set_cons_succ]
                refine wpAnyH_take (i := 10) (oi := ?oi11) (v := ?v11) ?hi11 ?hs11 ?hf11 ?hr11 ?hQ11 ?hy11 ?hS11 ?hrest11
                case hi11 => (conv => lhs; simp only [List.getElem?_toArray, List.getElem?_cons_zero, List.getElem?_cons_succ]); try exact rfl
                case hs11 => kernel_rfl
                case hf11 => kernel_rfl
                case hr11 => kernel_rfl
                case hQ11 => exact fun _ _ _ h => h
                case hS11 => assumption
                case hy11 => refine Or.inl ⟨by rfl, ?_⟩; intro w hSw; (try dsimp only at hSw); go_simp; (try with_reducible rfl)
                simp only [Act.put, List.setIfInBounds_toArray, List.set_cons_zero, List.set_cons_succ]
                refine wpAnyH_done (by kernel_rfl) ?_ _
                have hl5 : 0 + i0 + (W.length - (i0 + 1)) = (W.take i0 ++ W.drop (i0 + 1)).length := by rw [List.length_append, List.length_take, List.length_drop]; omega
                rw [hl5, show (#[] : Array Value).toList ++ ES (W.take i0) ++ ES (W.drop (i0 + 1)) = ES (W.take i0 ++ W.drop (i0 + 1)) by rw [ES_append]; rfl] at own88
                have hW5 : (W.take i0 ++ W.drop (i0 + 1)).length ≤ i + 1 := by rw [List.length_append, List.length_take, List.length_drop]; omega
                have bb : Below w5.heap.size w5 w88 := (BL.out.trans hb83).trans hb88
                replace FR5 := Lib.hid (FR5.out.bl bb)
                replace BW5 := Lib.hid (belN BW5.out bb)
                have INV5 := hI
                have own88 := own_more own88 (show w.heap.size ≤ w5.heap.size from l5)
                clear hl5 hI hR87 hR82 OL BL hA87 Own Own5
                generalize (W.take i0 ++ W.drop (i0 + 1)) = W at *
                obtain ⟨Au, cu, rfl, _, _, _⟩ := own_vals own88
                have Own5 := Lib.hid own88
                clear own88 bb
                go_wp2_with fail
                go_meet
                case rel => exact ⟨A5, m5, c5, ps', W, Au, cu, rfl, rfl, hW5, FR5, INV5, Own5, BW5⟩
            · have e3 : (x3 % 3 == 0) = false := by simp; omega
              obtain ⟨W4, hW4⟩ : ∃ X, w4.alloc (.cells #[.int .i64 H, .int .i64 K, .string ⟨#[110]⟩, .int .i64 i] 28) = X := ⟨_, rfl⟩
              have O4 : Blk W4 w4.heap.size 28 #[.int .i64 H, .int .i64 K, .string ⟨#[110]⟩, .int .i64 i] := by rw [← hW4]; exact Blk.new' _ _ _ _ rfl
              have BW4 := Lib.hid (show Below w.heap.size w W4 by rw [← hW4]; exact belA BW.out _)
              have FR4 := Lib.hid (show PgFr W4 0 A3 m3 ps by rw [← hW4]; exact FR.out.bl (belA (bel0 _) _))
              have Own4 := Lib.hid (show W4.ownsRow w.heap.size 28 4 (.slice Au W.length cu) W.length (ES W) by rw [← hW4]; exact own_below Own.out (belA (bel0 _) _) (Nat.le_refl _))
              clear h3
              go_upto_region 24 with fail
              try rw [hW4]
              clear hW4 mt3
              have x0 := O4.get (x := .int .i64 H) 0 rfl
              have x1 := O4.get (x := .int .i64 K) 1 rfl
              have x2 := O4.get (x := .string ⟨#[110]⟩) 2 rfl
              have x3 := O4.get (x := .int .i64 i) 3 rfl
              have lO := O4.lt
              go_wp2_with fail
              clear x0 x1 x2 x3 lO
              refine (pgAdd_impl A3 m3 c3 ps H K ⟨#[110]⟩ i hok W4 FR4.out.at_).mono ?_
              rintro e w5 ⟨A5, m5, c5, ps', b, rfl, ha, hfr, hb5⟩
              have O5 := O4.below hb5 O4.lt
              have Own5 := Lib.hid (own_below Own4.out hb5 (Nat.le_refl _))
              have BW5 := Lib.hid (belN BW4.out hb5)
              have hm3 := FR.out.at_.len
              rcases inv_add INV.out ha with ⟨rfl, hno, hinv⟩ | ⟨rfl, rfl, hfull⟩
              · have hR : R < 0 := Int.not_le.1 fun h => by
                  obtain ⟨k, hk, _, hkk⟩ := here_yes HR.out (by omega)
                  exact hno _ (List.getElem_mem hk) hkk
                have hR2 : ¬ (R ≥ 0) := by omega
                have hR3 : ¬ (0 ≤ R) := by omega
                have x0 := O5.get (x := .int .i64 H) 0 rfl
                have x1 := O5.get (x := .int .i64 K) 1 rfl
                have x2 := O5.get (x := .string ⟨#[110]⟩) 2 rfl
                have x3 := O5.get (x := .int .i64 i) 3 rfl
                have lO := O5.lt
                have lw5 := BW5.out.size
                have hfr2 := Lib.hid (hfr.bl (belA (bel0 _) (.cells #[.int .i64 H, .int .i64 K, .string ⟨#[110]⟩, .int .i64 i] 28)))
                have OwA := Lib.hid (own_below Own5.out (belA (bel0 _) (.cells #[.int .i64 H, .int .i64 K, .string ⟨#[110]⟩, .int .i64 i] 28)) (Nat.le_refl _))
                have BA5 := Lib.hid (belA BW5.out (.cells #[.int .i64 H, .int .i64 K, .string ⟨#[110]⟩, .int .i64 i] 28))
                have hWl : W.length ≤ 100 := by omega
                have hI := Lib.hid hinv
                clear hno hinv ha hb5
                go_wp2_with (at_builtin; go_must (refine wpList_app _ rfl _ _ _ rfl Try.el_ent OwA.out rfl (reads_new w5 _ _ _ 1 (by rfl)) rfl (ES_cells [⟨H, K, ⟨#[110]⟩, i⟩]) (max_small (by omega)) (by omega) (by simp; omega) ?_); intro v7 w7 own7 hg7 _ hb7)
                clear x0 x1 x2 x3 lO
                have FR7 := Lib.hid ((hfr2.out.kept hg7 (fun g e => (Own4.out.lt g e).2)).mono (Nat.zero_le _))
                replace BW5 := Lib.hid (BA5.out.trans hb7)
                have own8 : w7.ownsRow w.heap.size 28 4 v7 (W ++ [(⟨H, K, ⟨#[110]⟩, i⟩ : EntD)]).length (ES (W ++ [(⟨H, K, ⟨#[110]⟩, i⟩ : EntD)])) := by rw [ES_append, List.length_append]; exact own7
                have hW5 : (W ++ [(⟨H, K, ⟨#[110]⟩, i⟩ : EntD)]).length ≤ i + 1 := by rw [List.length_append]; simp; omega
                have INV5 := hI
                have FR5 := FR7
                clear own7 hg7 hI FR7 hfr2 OwA BA5 Own Own4 Own5 FR4 BW4
                generalize (W ++ [(⟨H, K, ⟨#[110]⟩, i⟩ : EntD)]) = W at *
                obtain ⟨Au, cu, rfl, _, _, _⟩ := own_vals own8
                have Own5 := Lib.hid own8
                clear own8
                go_wp2_with fail
                go_meet
                case rel => exact ⟨A5, m5, c5, ps', W, Au, cu, rfl, rfl, hW5, FR5, INV5, Own5, BW5⟩
              · have FR5 := Lib.hid (hfr.mono (Nat.zero_le _))
                have INV5 := Lib.hid INV.out
                have hW5 : W.length ≤ i + 1 := by omega
                by_cases hR : R < 0
                · have m8 : ¬ (m3 < 8) := by rw [← hm3]; exact hfull (here_no HR.out hR)
                  have m9 : ¬ ((m3 : Int) < 8) := by omega
                  have hR2 : ¬ (R ≥ 0) := by omega
                  have hR3 : ¬ (0 ≤ R) := by omega
                  clear hfull hfr ha hb5 hm3
                  go_wp2_with fail
                  go_meet
                  case rel => exact ⟨A5, m5, c5, ps', W, Au, cu, rfl, rfl, hW5, FR5, INV5, Own5, BW5⟩
                · have hR2 : R ≥ 0 := by omega
                  clear hfull hfr ha hb5 hm3
                  go_wp2_with fail
                  go_meet
                  case rel => exact ⟨A5, m5, c5, ps', W, Au, cu, rfl, rfl, hW5, FR5, INV5, Own5, BW5⟩
    · have q40 : ¬ ((i : Int) < 40) := by omega
      have q41 : ¬ (i < 40) := hlt
      go_wp2
      go_ret
      exact ⟨rfl, BW.out⟩

end Go.Proofs.Ytlnjgpekgnkakaa
