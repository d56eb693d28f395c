/- What is drawn: spoiled texts. -/
import Derived.Test.YtpnmmigoencbdaaDoorDraw7
namespace Go.Proofs.YtpnmmigoencbdaaDoor
open Go Go.RowKit

theorem Curs.drew {w : World} {g : Nat} {A : Option Addr} {n cp : Nat} {bs : List UInt8} (h : Curs w g A n cp bs) : Curs w.drew g A n cp bs := h.below (bel0 w).drew
theorem gb_dr {w w' : World} {g : Nat} (h : w.drew.grownBy w' (some g)) : w.grownBy w' (some g) := ⟨h.os, h.tape, h.output, h.size, h.block⟩
theorem gb_rd {w w' : World} {g : Nat} (h : w.grownBy w' (some g)) : w.grownBy w'.drew (some g) := ⟨h.os, h.tape, h.output, h.size, h.block⟩

theorem conv_any (v : Int) (W : World) : ∃ t : ByteArray, t.size = 1 ∧
    (convert 22 9 (.slice (some ⟨W.heap.size, 0, none⟩) 1 1)).run Tryd.prog (W.alloc (.cells #[.int .u8 (IntKind.u8.wrap v)] 5)) = .ok (.string t) (W.alloc (.cells #[.int .u8 (IntKind.u8.wrap v)] 5)) := by
  obtain ⟨b, hb, _⟩ := byte_ex (IntKind.u8.wrap v) (IntKind.u8.wrap v).toNat (by rw [IntKind.wrap_u8]; omega) (by rw [IntKind.wrap_u8]; omega)
  rw [hb]
  exact ⟨str [b], rfl, conv_lit b W _ rfl⟩

set_option maxRecDepth 100000 in
set_option maxHeartbeats 8000000 in
theorem l1Spoil_any (g : Nat) (A : Option Addr) (n cp : Nat) (bs : List UInt8) (hn : n ≤ 9223372036854775806) (s : ByteArray) (hs : s.size ≤ 2000000) (w : World) (h : Curs w g A n cp bs) :
    Calls Tryd.prog 30 #[.pointer (some ⟨g, 0, none⟩), .string s] w fun e w' => ∃ t : ByteArray, e = .returned (.string t) ∧ t.size ≤ s.size + 3 ∧ Curs w' g A n cp bs ∧ w.grownBy w' (some g) := by
  have Hb := Lib.hid (fun m hm W hW => l1Below_any g A n cp bs hn m hm W hW)
  have Hy := Lib.hid (fun W hW => l1Byte_any g A n cp bs hn W hW)
  have Ht := Lib.hid (fun W hW => l1Text_any g A n cp bs hn 3 (by omega) W hW)
  by_cases h0 : s.size = 0
  · have hz : ((s.size : Int) == 0) = true := by simp [h0]
    go_enter Tryd.func30, Tryd.ntmps30
    go_wp2_with fail
    refine (Ht.out w h).mono ?_
    rintro e w1 ⟨t, rfl, ht, hc1, hg1⟩
    go_wp2
    go_ret
    exact ⟨t, rfl, by omega, hc1, hg1⟩
  · have hz : ((s.size : Int) == 0) = false := by simp [h0]
    go_enter Tryd.func30, Tryd.ntmps30
    go_wp2_with fail
    refine (Hb.out (s.size : Int) (by omega) w h).mono ?_
    rintro e w1 ⟨x, rfl, _, hx, hc1, hg1⟩
    obtain ⟨hx0, hx1⟩ := hx (by omega)
    obtain ⟨k, rfl⟩ : ∃ k : Nat, x = (k : Int) := ⟨x.toNat, by omega⟩
    have hk : k < s.size := by omega
    clear hx
    go_wp2_with fail
    refine (Hb.out 4 (by omega) w1 hc1).mono ?_
    rintro e w2 ⟨y, rfl, _, hy, hc2, hg2⟩
    obtain ⟨hy0, hy1⟩ := hy (by omega)
    have G2 := hg1.trans hg2
    have q0 : (0 : Int) ≤ (k : Int) := by omega
    have q1 : (k : Int) ≤ (s.size : Int) := by omega
    have q2 : (0 : Int) ≤ (k : Int) + 1 := by omega
    have q3 : (k : Int) + 1 ≤ (s.size : Int) := by omega
    have q4 : (k : Int) < (s.size : Int) := by omega
    have wk : IntKind.i64.wrap ((k : Int) + 1) = (k : Int) + 1 := by rw [IntKind.wrap_i64]; omega
    have e1 : (s.extract 0 k).size = k := by rw [ByteArray.size_extract]; omega
    have e2 : (s.extract (k + 1) s.size).size = s.size - (k + 1) := by rw [ByteArray.size_extract]; omega
    have e3 : (s.extract k s.size).size = s.size - k := by rw [ByteArray.size_extract]; omega
    have b1 : ¬ (9223372036854775807 < k + 1) := by omega
    have b2 : ¬ (9223372036854775807 < k + 1 + (s.size - k)) := by omega
    have b3 : ¬ (9223372036854775807 < k + (s.size - (k + 1))) := by omega
    have b4 : ¬ (9223372036854775807 < k + 1 + (s.size - (k + 1))) := by omega
    rcases (show y = 0 ∨ y = 1 ∨ y = 2 ∨ y = 3 by omega) with rfl | rfl | rfl | rfl
    · go_wp2_with fail
      go_still (by kernel_rfl)
      change Exit.then _ _ Exit.normal _ w2.drew
      go_wp2
      go_ret
      exact ⟨_, rfl, by rw [ByteArray.size_append, e1, e2]; omega, hc2.drew, gb_rd G2⟩
    · go_wp2_with fail
      refine wp_region_held_drew (S := fun _ => True) (by kernel_rfl) trivial (fun hHeld => ?_)
      refine wpAnyH_take (i := 0) (oi := ?oi1) (v := ?v1) ?hi1 ?hs1 ?hf1 ?hr1 ?hQ1 ?hy1 ?hS1 ?hrest1
      case hi1 => (conv => lhs; simp only [List.getElem?_toArray, List.getElem?_cons_zero]); try exact rfl
      case hs1 => kernel_rfl
      case hf1 => kernel_rfl
      case hr1 => kernel_rfl
      case hQ1 => exact fun _ _ _ h => h
      case hS1 => assumption
      case hy1 => refine Or.inl ⟨by rfl, ?_⟩; intro w hSw; (try dsimp only at hSw); go_simp; (try with_reducible rfl)
      simp only [Act.put, List.setIfInBounds_toArray, List.set_cons_zero, List.set_cons_succ]
      refine wpAnyH_take (i := 1) (oi := ?oi2) (v := ?v2) ?hi2 ?hs2 ?hf2 ?hr2 ?hQ2 ?hy2 ?hS2 ?hrest2
      case hi2 => (conv => lhs; simp only [List.getElem?_toArray, List.getElem?_cons_zero, List.getElem?_cons_succ]); try exact rfl
      case hs2 => kernel_rfl
      case hf2 => kernel_rfl
      case hr2 => kernel_rfl
      case hQ2 => exact fun _ _ _ h => h
      case hS2 => assumption
      case hy2 => refine Or.inl ⟨by rfl, ?_⟩; intro w hSw; (try dsimp only at hSw); go_simp; (try with_reducible rfl)
      simp only [Act.put, List.setIfInBounds_toArray, List.set_cons_zero, List.set_cons_succ]
      refine wpAnyH_take (i := 2) (oi := ?oi3) (v := ?v3) ?hi3 ?hs3 ?hf3 ?hr3 ?hQ3 ?hy3 ?hS3 ?hrest3
      case hi3 => (conv => lhs; simp only [List.getElem?_toArray, List.getElem?_cons_zero, List.getElem?_cons_succ]); try exact rfl
      case hs3 => kernel_rfl
      case hf3 => kernel_rfl
      case hr3 => kernel_rfl
      case hQ3 => exact fun _ _ _ h => h
      case hS3 => assumption
      case hy3 => refine Or.inl ⟨by rfl, ?_⟩; intro w hSw; (try dsimp only at hSw); go_simp; (try with_reducible rfl)
      simp only [Act.put, List.setIfInBounds_toArray, List.set_cons_zero, List.set_cons_succ]
      refine wpAnyH_take (i := 3) (oi := ?oi4) (v := ?v4) ?hi4 ?hs4 ?hf4 ?hr4 ?hQ4 ?hy4 ?hS4 ?hrest4
      case hi4 => (conv => lhs; simp only [List.getElem?_toArray, List.getElem?_cons_zero, List.getElem?_cons_succ]); try exact rfl
      case hs4 => kernel_rfl
      case hf4 => kernel_rfl
      case hr4 => kernel_rfl
      case hQ4 => exact fun _ _ _ h => h
      case hS4 => assumption
      case hy4 => refine Or.inl ⟨by rfl, ?_⟩; intro w hSw; (try dsimp only at hSw); go_simp; (try with_reducible rfl)
      simp only [Act.put, List.setIfInBounds_toArray, List.set_cons_zero, List.set_cons_succ]
      refine wpAnyH_take (i := 9) (oi := ?oi5) (v := ?v5) ?hi5 ?hs5 ?hf5 ?hr5 ?hQ5 ?hy5 ?hS5 ?hrest5
      case hi5 => (conv => lhs; simp only [List.getElem?_toArray, List.getElem?_cons_zero, List.getElem?_cons_succ]); try exact rfl
      case hs5 => kernel_rfl
      case hf5 => kernel_rfl
      case hr5 => kernel_rfl
      case hQ5 => exact fun _ _ _ h => h
      case hS5 => assumption
      case hy5 => refine Or.inl ⟨by rfl, ?_⟩; intro w hSw; (try dsimp only at hSw); go_simp; (try with_reducible rfl)
      simp only [Act.put, List.setIfInBounds_toArray, List.set_cons_zero, List.set_cons_succ]
      refine wpAnyH_take (i := 10) (oi := ?oi6) (v := ?v6) ?hi6 ?hs6 ?hf6 ?hr6 ?hQ6 ?hy6 ?hS6 ?hrest6
      case hi6 => (conv => lhs; simp only [List.getElem?_toArray, List.getElem?_cons_zero, List.getElem?_cons_succ]); try exact rfl
      case hs6 => kernel_rfl
      case hf6 => kernel_rfl
      case hr6 => kernel_rfl
      case hQ6 => exact fun _ _ _ h => h
      case hS6 => assumption
      case hy6 => refine Or.inl ⟨by rfl, ?_⟩; intro w hSw; (try dsimp only at hSw); go_simp; (try with_reducible rfl)
      simp only [Act.put, List.setIfInBounds_toArray, List.set_cons_zero, List.set_cons_succ]
      refine wpAnyH_take (i := 11) (oi := ?oi7) (v := ?v7) ?hi7 ?hs7 ?hf7 ?hr7 ?hQ7 ?hy7 ?hS7 ?hrest7
      case hi7 => (conv => lhs; simp only [List.getElem?_toArray, List.getElem?_cons_zero, List.getElem?_cons_succ]); try exact rfl
      case hs7 => kernel_rfl
      case hf7 => kernel_rfl
      case hr7 => kernel_rfl
      case hQ7 => exact fun _ _ _ h => h
      case hS7 => assumption
      case hy7 => refine Or.inl ⟨by rfl, ?_⟩; intro w hSw; (try dsimp only at hSw); go_simp; (try with_reducible rfl)
      simp only [Act.put, List.setIfInBounds_toArray, List.set_cons_zero, List.set_cons_succ]
      refine wpAnyH_ready (rs := [4]) (by kernel_rfl) (by simp) ?_
      refine AllReadyH.cons (o := ?oi8) ?hi8 (fun K hK => ?_) AllReadyH.nil
      case hi8 => (conv => lhs; simp only [List.getElem?_toArray, List.getElem?_cons_zero, List.getElem?_cons_succ]); try exact rfl
      go_simp
      go_at_call 58
      refine (Hy.out _ hc2.drew).mono ?_
      rintro e w5 ⟨z, rfl, z0, z1, hc5, hg5⟩
      obtain ⟨t5, ht5, hcv⟩ := conv_any z w5
      refine hK.out _ _ trivial (fun hHeld8 => ?_)
      clear hK K
      try simp only [Act.put, List.setIfInBounds_toArray, List.set_cons_zero, List.set_cons_succ]
      refine wpAnyH_take (i := 5) (oi := ?oi9) (v := ?v9) ?hi9 ?hs9 ?hf9 ?hr9 ?hQ9 ?hy9 ?hS9 ?hrest9
      case hi9 => (conv => lhs; simp only [List.getElem?_toArray, List.getElem?_cons_zero, List.getElem?_cons_succ]); try exact rfl
      case hs9 => kernel_rfl
      case hf9 => kernel_rfl
      case hr9 => kernel_rfl
      case hQ9 => exact fun _ _ _ h => h
      case hS9 => assumption
      case hy9 => refine Or.inl ⟨by rfl, ?_⟩; intro w hSw; (try dsimp only at hSw); go_simp; (try with_reducible rfl)
      simp only [Act.put, List.setIfInBounds_toArray, List.set_cons_zero, List.set_cons_succ]
      refine wpAnyH_ready (rs := [6]) (by kernel_rfl) (by simp) ?_
      refine AllReadyH.cons (o := ?oi10) ?hi10 (fun K hK => ?_) AllReadyH.nil
      case hi10 => (conv => lhs; simp only [List.getElem?_toArray, List.getElem?_cons_zero, List.getElem?_cons_succ]); try exact rfl
      go_simp
      refine hK.out _ _ trivial (fun hHeld10 => ?_)
      clear hK K
      try simp only [Act.put, List.setIfInBounds_toArray, List.set_cons_zero, List.set_cons_succ]
      refine wpAnyH_ready (rs := [7]) (by kernel_rfl) (by simp) ?_
      refine AllReadyH.cons (o := ?oi11) ?hi11 (fun K hK => ?_) AllReadyH.nil
      case hi11 => (conv => lhs; simp only [List.getElem?_toArray, List.getElem?_cons_zero, List.getElem?_cons_succ]); try exact rfl
      go_simp
      refine hK.out _ _ trivial (fun hHeld11 => ?_)
      clear hK K
      try simp only [Act.put, List.setIfInBounds_toArray, List.set_cons_zero, List.set_cons_succ]
      refine wpAnyH_ready (rs := [8]) (by kernel_rfl) (by simp) ?_
      refine AllReadyH.cons (o := ?oi12) ?hi12 (fun K hK => ?_) AllReadyH.nil
      case hi12 => (conv => lhs; simp only [List.getElem?_toArray, List.getElem?_cons_zero, List.getElem?_cons_succ]); try exact rfl
      go_simp
      refine hK.out _ _ trivial (fun hHeld12 => ?_)
      clear hK K
      try simp only [Act.put, List.setIfInBounds_toArray, List.set_cons_zero, List.set_cons_succ]
      refine wpAnyH_ready (rs := [12]) (by kernel_rfl) (by simp) ?_
      refine AllReadyH.cons (o := ?oi13) ?hi13 (fun K hK => ?_) AllReadyH.nil
      case hi13 => (conv => lhs; simp only [List.getElem?_toArray, List.getElem?_cons_zero, List.getElem?_cons_succ]); try exact rfl
      go_simp
      refine hK.out _ _ trivial (fun hHeld13 => ?_)
      clear hK K
      try simp only [Act.put, List.setIfInBounds_toArray, List.set_cons_zero, List.set_cons_succ]
      refine wpAnyH_take (i := 13) (oi := ?oi14) (v := ?v14) ?hi14 ?hs14 ?hf14 ?hr14 ?hQ14 ?hy14 ?hS14 ?hrest14
      case hi14 => (conv => lhs; simp only [List.getElem?_toArray, List.getElem?_cons_zero, List.getElem?_cons_succ]); try exact rfl
      case hs14 => kernel_rfl
      case hf14 => kernel_rfl
      case hr14 => kernel_rfl
      case hQ14 => exact fun _ _ _ h => h
      case hS14 => assumption
      case hy14 => refine Or.inl ⟨by rfl, ?_⟩; intro w hSw; (try dsimp only at hSw); go_simp; (try with_reducible rfl)
      simp only [Act.put, List.setIfInBounds_toArray, List.set_cons_zero, List.set_cons_succ]
      refine wpAnyH_done (by kernel_rfl) ?_ _
      go_wp2
      go_ret
      exact ⟨_, rfl, by rw [ByteArray.size_append, ByteArray.size_append, e1, ht5, e3]; omega, hc5.alloc _, gb_below (G2.trans (gb_dr hg5)) (belA (bel0 _) _)⟩
    · go_wp2
      go_ret
      exact ⟨_, rfl, by rw [e1]; omega, hc2, G2⟩
    · go_wp2_with fail
      refine wp_region_held_drew (S := fun _ => True) (by kernel_rfl) trivial (fun hHeld => ?_)
      refine wpAnyH_take (i := 0) (oi := ?oi101) (v := ?v101) ?hi101 ?hs101 ?hf101 ?hr101 ?hQ101 ?hy101 ?hS101 ?hrest101
      case hi101 => (conv => lhs; simp only [List.getElem?_toArray, List.getElem?_cons_zero]); try exact rfl
      case hs101 => kernel_rfl
      case hf101 => kernel_rfl
      case hr101 => kernel_rfl
      case hQ101 => exact fun _ _ _ h => h
      case hS101 => assumption
      case hy101 => refine Or.inl ⟨by rfl, ?_⟩; intro w hSw; (try dsimp only at hSw); go_simp; (try with_reducible rfl)
      simp only [Act.put, List.setIfInBounds_toArray, List.set_cons_zero, List.set_cons_succ]
      refine wpAnyH_take (i := 1) (oi := ?oi102) (v := ?v102) ?hi102 ?hs102 ?hf102 ?hr102 ?hQ102 ?hy102 ?hS102 ?hrest102
      case hi102 => (conv => lhs; simp only [List.getElem?_toArray, List.getElem?_cons_zero, List.getElem?_cons_succ]); try exact rfl
      case hs102 => kernel_rfl
      case hf102 => kernel_rfl
      case hr102 => kernel_rfl
      case hQ102 => exact fun _ _ _ h => h
      case hS102 => assumption
      case hy102 => refine Or.inl ⟨by rfl, ?_⟩; intro w hSw; (try dsimp only at hSw); go_simp; (try with_reducible rfl)
      simp only [Act.put, List.setIfInBounds_toArray, List.set_cons_zero, List.set_cons_succ]
      refine wpAnyH_take (i := 2) (oi := ?oi103) (v := ?v103) ?hi103 ?hs103 ?hf103 ?hr103 ?hQ103 ?hy103 ?hS103 ?hrest103
      case hi103 => (conv => lhs; simp only [List.getElem?_toArray, List.getElem?_cons_zero, List.getElem?_cons_succ]); try exact rfl
      case hs103 => kernel_rfl
      case hf103 => kernel_rfl
      case hr103 => kernel_rfl
      case hQ103 => exact fun _ _ _ h => h
      case hS103 => assumption
      case hy103 => refine Or.inl ⟨by rfl, ?_⟩; intro w hSw; (try dsimp only at hSw); go_simp; (try with_reducible rfl)
      simp only [Act.put, List.setIfInBounds_toArray, List.set_cons_zero, List.set_cons_succ]
      refine wpAnyH_take (i := 3) (oi := ?oi104) (v := ?v104) ?hi104 ?hs104 ?hf104 ?hr104 ?hQ104 ?hy104 ?hS104 ?hrest104
      case hi104 => (conv => lhs; simp only [List.getElem?_toArray, List.getElem?_cons_zero, List.getElem?_cons_succ]); try exact rfl
      case hs104 => kernel_rfl
      case hf104 => kernel_rfl
      case hr104 => kernel_rfl
      case hQ104 => exact fun _ _ _ h => h
      case hS104 => assumption
      case hy104 => refine Or.inl ⟨by rfl, ?_⟩; intro w hSw; (try dsimp only at hSw); go_simp; (try with_reducible rfl)
      simp only [Act.put, List.setIfInBounds_toArray, List.set_cons_zero, List.set_cons_succ]
      refine wpAnyH_take (i := 4) (oi := ?oi105) (v := ?v105) ?hi105 ?hs105 ?hf105 ?hr105 ?hQ105 ?hy105 ?hS105 ?hrest105
      case hi105 => (conv => lhs; simp only [List.getElem?_toArray, List.getElem?_cons_zero, List.getElem?_cons_succ]); try exact rfl
      case hs105 => kernel_rfl
      case hf105 => kernel_rfl
      case hr105 => kernel_rfl
      case hQ105 => exact fun _ _ _ h => h
      case hS105 => assumption
      case hy105 => refine Or.inl ⟨by rfl, ?_⟩; intro w hSw; (try dsimp only at hSw); go_simp; (try with_reducible rfl)
      simp only [Act.put, List.setIfInBounds_toArray, List.set_cons_zero, List.set_cons_succ]
      refine wpAnyH_take (i := 7) (oi := ?oi106) (v := ?v106) ?hi106 ?hs106 ?hf106 ?hr106 ?hQ106 ?hy106 ?hS106 ?hrest106
      case hi106 => (conv => lhs; simp only [List.getElem?_toArray, List.getElem?_cons_zero, List.getElem?_cons_succ]); try exact rfl
      case hs106 => kernel_rfl
      case hf106 => kernel_rfl
      case hr106 => kernel_rfl
      case hQ106 => exact fun _ _ _ h => h
      case hS106 => assumption
      case hy106 => refine Or.inl ⟨by rfl, ?_⟩; intro w hSw; (try dsimp only at hSw); go_simp; (try with_reducible rfl)
      simp only [Act.put, List.setIfInBounds_toArray, List.set_cons_zero, List.set_cons_succ]
      refine wpAnyH_take (i := 15) (oi := ?oi107) (v := ?v107) ?hi107 ?hs107 ?hf107 ?hr107 ?hQ107 ?hy107 ?hS107 ?hrest107
      case hi107 => (conv => lhs; simp only [List.getElem?_toArray, List.getElem?_cons_zero, List.getElem?_cons_succ]); try exact rfl
      case hs107 => kernel_rfl
      case hf107 => kernel_rfl
      case hr107 => kernel_rfl
      case hQ107 => exact fun _ _ _ h => h
      case hS107 => assumption
      case hy107 => refine Or.inl ⟨by rfl, ?_⟩; intro w hSw; (try dsimp only at hSw); go_simp; (try with_reducible rfl)
      simp only [Act.put, List.setIfInBounds_toArray, List.set_cons_zero, List.set_cons_succ]
      refine wpAnyH_take (i := 16) (oi := ?oi108) (v := ?v108) ?hi108 ?hs108 ?hf108 ?hr108 ?hQ108 ?hy108 ?hS108 ?hrest108
      case hi108 => (conv => lhs; simp only [List.getElem?_toArray, List.getElem?_cons_zero, List.getElem?_cons_succ]); try exact rfl
      case hs108 => kernel_rfl
      case hf108 => kernel_rfl
      case hr108 => kernel_rfl
      case hQ108 => exact fun _ _ _ h => h
      case hS108 => assumption
      case hy108 => refine Or.inl ⟨by rfl, ?_⟩; intro w hSw; (try dsimp only at hSw); go_simp; (try with_reducible rfl)
      simp only [Act.put, List.setIfInBounds_toArray, List.set_cons_zero, List.set_cons_succ]
      refine wpAnyH_take (i := 17) (oi := ?oi109) (v := ?v109) ?hi109 ?hs109 ?hf109 ?hr109 ?hQ109 ?hy109 ?hS109 ?hrest109
      case hi109 => (conv => lhs; simp only [List.getElem?_toArray, List.getElem?_cons_zero, List.getElem?_cons_succ]); try exact rfl
      case hs109 => kernel_rfl
      case hf109 => kernel_rfl
      case hr109 => kernel_rfl
      case hQ109 => exact fun _ _ _ h => h
      case hS109 => assumption
      case hy109 => refine Or.inl ⟨by rfl, ?_⟩; intro w hSw; (try dsimp only at hSw); go_simp; (try with_reducible rfl)
      simp only [Act.put, List.setIfInBounds_toArray, List.set_cons_zero, List.set_cons_succ]
      refine wpAnyH_take (i := 18) (oi := ?oi110) (v := ?v110) ?hi110 ?hs110 ?hf110 ?hr110 ?hQ110 ?hy110 ?hS110 ?hrest110
      case hi110 => (conv => lhs; simp only [List.getElem?_toArray, List.getElem?_cons_zero, List.getElem?_cons_succ]); try exact rfl
      case hs110 => kernel_rfl
      case hf110 => kernel_rfl
      case hr110 => kernel_rfl
      case hQ110 => exact fun _ _ _ h => h
      case hS110 => assumption
      case hy110 => refine Or.inl ⟨by rfl, ?_⟩; intro w hSw; (try dsimp only at hSw); go_simp; (try with_reducible rfl)
      simp only [Act.put, List.setIfInBounds_toArray, List.set_cons_zero, List.set_cons_succ]
      refine wpAnyH_take (i := 5) (oi := ?oi111) (v := ?v111) ?hi111 ?hs111 ?hf111 ?hr111 ?hQ111 ?hy111 ?hS111 ?hrest111
      case hi111 => (conv => lhs; simp only [List.getElem?_toArray, List.getElem?_cons_zero, List.getElem?_cons_succ]); try exact rfl
      case hs111 => kernel_rfl
      case hf111 => kernel_rfl
      case hr111 => kernel_rfl
      case hQ111 => exact fun _ _ _ h => h
      case hS111 => assumption
      case hy111 => refine Or.inl ⟨by rfl, ?_⟩; intro w hSw; (try dsimp only at hSw); go_simp; (try with_reducible rfl)
      simp only [Act.put, List.setIfInBounds_toArray, List.set_cons_zero, List.set_cons_succ]
      refine wpAnyH_take (i := 6) (oi := ?oi112) (v := ?v112) ?hi112 ?hs112 ?hf112 ?hr112 ?hQ112 ?hy112 ?hS112 ?hrest112
      case hi112 => (conv => lhs; simp only [List.getElem?_toArray, List.getElem?_cons_zero, List.getElem?_cons_succ]); try exact rfl
      case hs112 => kernel_rfl
      case hf112 => kernel_rfl
      case hr112 => kernel_rfl
      case hQ112 => exact fun _ _ _ h => h
      case hS112 => assumption
      case hy112 => refine Or.inl ⟨by rfl, ?_⟩; intro w hSw; (try dsimp only at hSw); go_simp; (try with_reducible rfl)
      simp only [Act.put, List.setIfInBounds_toArray, List.set_cons_zero, List.set_cons_succ]
      refine wpAnyH_ready (rs := [8]) (by kernel_rfl) (by simp) ?_
      refine AllReadyH.cons (o := ?oi113) ?hi113 (fun K hK => ?_) AllReadyH.nil
      case hi113 => (conv => lhs; simp only [List.getElem?_toArray, List.getElem?_cons_zero, List.getElem?_cons_succ]); try exact rfl
      go_simp
      go_at_call 47
      refine (Hb.out 255 (by omega) _ hc2.drew).mono ?_
      rintro e w5 ⟨z, rfl, _, hz5, hc5, hg5⟩
      obtain ⟨t5, ht5, hcv⟩ := conv_any (bits BinOp.xor IntKind.i64 (IntKind.i64.wrap ((s[k]'hk).toNat : Int)) (IntKind.i64.wrap (1 + z))) w5
      refine hK.out _ _ trivial (fun hHeld113 => ?_)
      clear hK K
      try simp only [Act.put, List.setIfInBounds_toArray, List.set_cons_zero, List.set_cons_succ]
      refine wpAnyH_take (i := 9) (oi := ?oi114) (v := ?v114) ?hi114 ?hs114 ?hf114 ?hr114 ?hQ114 ?hy114 ?hS114 ?hrest114
      case hi114 => (conv => lhs; simp only [List.getElem?_toArray, List.getElem?_cons_zero, List.getElem?_cons_succ]); try exact rfl
      case hs114 => kernel_rfl
      case hf114 => kernel_rfl
      case hr114 => kernel_rfl
      case hQ114 => exact fun _ _ _ h => h
      case hS114 => assumption
      case hy114 => refine Or.inl ⟨by rfl, ?_⟩; intro w hSw; (try dsimp only at hSw); go_simp; (try with_reducible rfl)
      simp only [Act.put, List.setIfInBounds_toArray, List.set_cons_zero, List.set_cons_succ]
      refine wpAnyH_take (i := 10) (oi := ?oi115) (v := ?v115) ?hi115 ?hs115 ?hf115 ?hr115 ?hQ115 ?hy115 ?hS115 ?hrest115
      case hi115 => (conv => lhs; simp only [List.getElem?_toArray, List.getElem?_cons_zero, List.getElem?_cons_succ]); try exact rfl
      case hs115 => kernel_rfl
      case hf115 => kernel_rfl
      case hr115 => kernel_rfl
      case hQ115 => exact fun _ _ _ h => h
      case hS115 => assumption
      case hy115 => refine Or.inl ⟨by rfl, ?_⟩; intro w hSw; (try dsimp only at hSw); go_simp; (try with_reducible rfl)
      simp only [Act.put, List.setIfInBounds_toArray, List.set_cons_zero, List.set_cons_succ]
      refine wpAnyH_take (i := 11) (oi := ?oi116) (v := ?v116) ?hi116 ?hs116 ?hf116 ?hr116 ?hQ116 ?hy116 ?hS116 ?hrest116
      case hi116 => (conv => lhs; simp only [List.getElem?_toArray, List.getElem?_cons_zero, List.getElem?_cons_succ]); try exact rfl
      case hs116 => kernel_rfl
      case hf116 => kernel_rfl
      case hr116 => kernel_rfl
      case hQ116 => exact fun _ _ _ h => h
      case hS116 => assumption
      case hy116 => refine Or.inl ⟨by rfl, ?_⟩; intro w hSw; (try dsimp only at hSw); go_simp; (try with_reducible rfl)
      simp only [Act.put, List.setIfInBounds_toArray, List.set_cons_zero, List.set_cons_succ]
      refine wpAnyH_ready (rs := [12]) (by kernel_rfl) (by simp) ?_
      refine AllReadyH.cons (o := ?oi117) ?hi117 (fun K hK => ?_) AllReadyH.nil
      case hi117 => (conv => lhs; simp only [List.getElem?_toArray, List.getElem?_cons_zero, List.getElem?_cons_succ]); try exact rfl
      go_simp
      refine hK.out _ _ trivial (fun hHeld117 => ?_)
      clear hK K
      try simp only [Act.put, List.setIfInBounds_toArray, List.set_cons_zero, List.set_cons_succ]
      refine wpAnyH_ready (rs := [13]) (by kernel_rfl) (by simp) ?_
      refine AllReadyH.cons (o := ?oi118) ?hi118 (fun K hK => ?_) AllReadyH.nil
      case hi118 => (conv => lhs; simp only [List.getElem?_toArray, List.getElem?_cons_zero, List.getElem?_cons_succ]); try exact rfl
      go_simp
      refine hK.out _ _ trivial (fun hHeld118 => ?_)
      clear hK K
      try simp only [Act.put, List.setIfInBounds_toArray, List.set_cons_zero, List.set_cons_succ]
      refine wpAnyH_ready (rs := [14]) (by kernel_rfl) (by simp) ?_
      refine AllReadyH.cons (o := ?oi119) ?hi119 (fun K hK => ?_) AllReadyH.nil
      case hi119 => (conv => lhs; simp only [List.getElem?_toArray, List.getElem?_cons_zero, List.getElem?_cons_succ]); try exact rfl
      go_simp
      refine hK.out _ _ trivial (fun hHeld119 => ?_)
      clear hK K
      try simp only [Act.put, List.setIfInBounds_toArray, List.set_cons_zero, List.set_cons_succ]
      refine wpAnyH_ready (rs := [19]) (by kernel_rfl) (by simp) ?_
      refine AllReadyH.cons (o := ?oi120) ?hi120 (fun K hK => ?_) AllReadyH.nil
      case hi120 => (conv => lhs; simp only [List.getElem?_toArray, List.getElem?_cons_zero, List.getElem?_cons_succ]); try exact rfl
      go_simp
      refine hK.out _ _ trivial (fun hHeld120 => ?_)
      clear hK K
      try simp only [Act.put, List.setIfInBounds_toArray, List.set_cons_zero, List.set_cons_succ]
      refine wpAnyH_take (i := 20) (oi := ?oi121) (v := ?v121) ?hi121 ?hs121 ?hf121 ?hr121 ?hQ121 ?hy121 ?hS121 ?hrest121
      case hi121 => (conv => lhs; simp only [List.getElem?_toArray, List.getElem?_cons_zero, List.getElem?_cons_succ]); try exact rfl
      case hs121 => kernel_rfl
      case hf121 => kernel_rfl
      case hr121 => kernel_rfl
      case hQ121 => exact fun _ _ _ h => h
      case hS121 => assumption
      case hy121 => refine Or.inl ⟨by rfl, ?_⟩; intro w hSw; (try dsimp only at hSw); go_simp; (try with_reducible rfl)
      simp only [Act.put, List.setIfInBounds_toArray, List.set_cons_zero, List.set_cons_succ]
      refine wpAnyH_done (by kernel_rfl) ?_ _
      go_wp2
      go_ret
      exact ⟨_, rfl, by rw [ByteArray.size_append, ByteArray.size_append, e1, ht5, e2]; omega, hc5.alloc _, gb_below (G2.trans (gb_dr hg5)) (belA (bel0 _) _)⟩

end Go.Proofs.YtpnmmigoencbdaaDoor
