/- Signs taken apart, marks in order, in the reference. -/
import Derived.Test.YtlgjehdocppofaaDoorApartI
namespace Go.Proofs.YtlgjehdocppofaaDoor
open Go Go.RowKit

theorem bub_start (l : List Int) : (l.take 1).foldl bub [] ++ l.drop 1 = l := by
  cases l with
  | nil => rfl
  | cons a l => rfl
theorem bub_next (l : List Int) (k : Nat) (h : k < l.length) : (l.take (k + 1)).foldl bub [] ++ l.drop (k + 1) = bub ((l.take k).foldl bub []) l[k] ++ l.drop (k + 1) := by
  rw [List.take_succ_eq_append_getElem h, List.foldl_append]; rfl

set_option maxRecDepth 100000 in
set_option maxHeartbeats 8000000 in
theorem apart_spec (A : Option Addr) (n c : Nat) (xs : List Int) (hl : xs.length = n) (hn : n ≤ 100000) (w : World) (hr : Reads w w.heap.size 1 A n (II xs)) :
    Calls Tryd.prog 191 #[.slice A n c] w (RowPost w 3 (apartL xs)) := by
  have Hr := Lib.hid hr
  have HL := Lib.hid hl
  have hfl : (xs.flatMap takL).length ≤ 1000000 := by
    have h1 := flatMap_len (b := 9) xs (fun x _ => takL_len x)
    omega
  clear hr hl
  go_enter Tryd.func191, Tryd.ntmps191
  go_wp2
  go_loopw [3, 4] (fun v i wr => ∃ (k : Nat), k ≤ n ∧ i = .int .i64 k ∧ wr.ownsRow w.heap.size 3 1 v ((xs.take k).flatMap takL).length (II ((xs.take k).flatMap takL)) ∧ Below w.heap.size w wr)
    (fun _ i _ => n - (intOf i).toNat)
  case atStart => exact ⟨0, by omega, rfl, lit_at w w 3 [] _ _ rfl (Nat.le_refl _) rfl (by simp), belA (bel0 w) _⟩
  case round =>
    obtain ⟨k, hk, rfl, hown, hbel⟩ := hrel
    have hsz := hbel.size
    by_cases hlt : k < n
    · obtain ⟨hkx, ad, rfl, hadb, hcell⟩ := reads_at (Hr.out.below hbel) hlt
      have Hs := Lib.hid (show (xs.take (k + 1)).flatMap takL = (xs.take k).flatMap takL ++ takL xs[k] by rw [List.take_succ_eq_append_getElem hkx, List.flatMap_append]; simp)
      have hlen : ((xs.take k).flatMap takL).length ≤ 1000000 := by
        have h1 := flatMap_len (b := 9) (xs.take k) (fun x _ => takL_len x)
        rw [List.length_take] at h1
        omega
      have hlen2 : (takL xs[k]).length ≤ 9 := takL_len _
      obtain ⟨x, hx⟩ : ∃ x, xs[k] = x := ⟨_, rfl⟩
      rw [hx] at hcell Hs hlen2
      clear hx
      have q0 : (0 : Int) ≤ ↑k := by omega
      have q1 : (k : Int) < ↑n := by omega
      go_wp2_with fail
      refine (l4Take_any x _).mono ?_
      rintro e w2 ⟨v2, rfl, hown2, hb2⟩
      obtain ⟨A2, c2, rfl, _, _, hr2⟩ := own_vals hown2
      have own1 := own_below hown hb2 (Nat.le_refl _)
      have hs2 := hb2.size
      obtain ⟨L1, hL1⟩ : ∃ L1, (xs.take k).flatMap takL = L1 := ⟨_, rfl⟩
      obtain ⟨L2, hL2⟩ : ∃ L2, takL x = L2 := ⟨_, rfl⟩
      rw [hL1] at own1 hlen Hs
      rw [hL2] at hr2 hlen2 Hs ⊢
      clear hown2 hown hcell hL1 hL2
      go_wp2_with (at_builtin; go_must (refine wpList_app _ rfl _ _ _ rfl Tryd.el_int own1 rfl hr2 rfl (II_cells _) (max_small (by omega)) (by omega) (by omega) ?_); intro v3 w3 own3 hg3 _ hb3)
      go_roundw
      case rel =>
        refine ⟨k + 1, by omega, by go_num, ?_, (belN hbel hb2).trans hb3⟩
        rw [Hs.out, List.length_append, II_append]; exact own3
      case measure => simp [intOf]; omega
    · obtain rfl : k = n := by omega
      rw [List.take_of_length_le (by have := HL.out; omega)] at hown
      have Hap := Lib.hid (show apartL xs = (xs.flatMap takL).foldl bub [] from rfl)
      obtain ⟨F, hF⟩ : ∃ F, xs.flatMap takL = F := ⟨_, rfl⟩
      rw [hF] at hown hfl Hap
      clear hF
      obtain ⟨f, hf⟩ : ∃ f, F.length = f := ⟨_, rfl⟩
      have Hf := Lib.hid hf
      rw [hf] at hown hfl
      clear hf
      rename World => w5
      rcases Nat.eq_zero_or_pos f with h0 | h0
      · subst h0
        obtain ⟨A2, c2, rfl, _, _, _⟩ := own_vals hown
        have hF0 : F = [] := List.eq_nil_of_length_eq_zero Hf.out
        subst hF0
        have Hown := Lib.hid hown
        clear hown
        go_wp2
        refine wp_loop_rounds 1 ?_
        rw [rounds_succ]
        go_wp2
        go_ret
        exact ⟨_, rfl, by rw [Hap.out]; exact Hown.out, hbel⟩
      · obtain ⟨g, c4, rfl⟩ := own_form1 hown h0
        have Hown := Lib.hid hown
        have hgb := (own_lt hown).1
        clear hown
        go_wp2
        go_loopw [5] (fun i wr => ∃ (k : Nat), 1 ≤ k ∧ k ≤ f ∧ i = .int .i64 k ∧ wr.ownsRow w.heap.size 3 1 (.slice (some ⟨g, 0, none⟩) f c4) f (II ((F.take k).foldl bub [] ++ F.drop k)) ∧ Below w.heap.size w wr)
          (fun i _ => f - (intOf i).toNat)
        case atStart => exact ⟨1, by omega, by omega, rfl, by rw [bub_start]; exact Hown.out, hbel⟩
        case round =>
          obtain ⟨k, hk1, hkf, rfl, hown2, hbel2⟩ := hrel
          by_cases hlt2 : k < f
          · have hkF : k < F.length := by have := Hf.out; omega
            have Hnx := Lib.hid (bub_next F k hkF)
            have hdr : F.drop k = F[k] :: F.drop (k + 1) := List.drop_eq_getElem_cons hkF
            rw [hdr] at hown2
            obtain ⟨x, hx⟩ : ∃ x, F[k] = x := ⟨_, rfl⟩
            rw [hx] at hown2 Hnx
            obtain ⟨Q, hQ⟩ : ∃ Q, (F.take k).foldl bub [] = Q := ⟨_, rfl⟩
            obtain ⟨R, hR⟩ : ∃ R, F.drop (k + 1) = R := ⟨_, rfl⟩
            have Hq := Lib.hid (show Q.length = k by rw [← hQ, bubs_len, List.length_take]; simp only [List.length_nil]; omega)
            rw [hQ, hR] at Hnx hown2
            have HR := Lib.hid hR
            rw [show Q ++ x :: R = Q ++ [x] ++ ([] ++ R) by simp] at hown2
            have Own2 := Lib.hid hown2
            clear hown2 hdr hx hQ hR
            have q0 : (0 : Int) ≤ ↑k := by omega
            have q1 : (k : Int) < ↑f := by omega
            go_wp2
            rename World => w6
            go_loopw [6] (fun i wr => ∃ (X B : List Int) (I : Int), i = .int .i64 I ∧ Hid (I = (X.length : Int)) ∧ Hid (X.length + B.length = k) ∧ Hid (bub Q x = (insR x X.reverse).reverse ++ B) ∧ wr.ownsRow w.heap.size 3 1 (.slice (some ⟨g, 0, none⟩) f c4) f (II (X ++ [x] ++ (B ++ R))) ∧ Below w.heap.size w wr)
              (fun i _ => (intOf i).toNat)
            case atStart => exact ⟨Q, [], _, rfl, by show _ = _; rw [Hq.out], by show _ = _; rw [Hq.out]; rfl, by show _ = _; rw [List.append_nil]; rfl, Own2.out, hbel2⟩
            case round =>
              obtain ⟨X, B, I, rfl, HI, Hxb, Hbub, own5, b5⟩ := hrel
              rcases List.eq_nil_or_concat X with rfl | ⟨X', y, rfl⟩
              · have hI : I = 0 := HI.out
                have hI0 : decide (0 < I) = false := by simp [hI]
                have Hend := Lib.hid (ins_end Hbub.out)
                have Own5 := Lib.hid own5
                clear own5 hI
                go_wp2_with fail
                go_quiet (fail)
                go_wp2
                go_roundw
                case rel => exact ⟨k + 1, by omega, by omega, by go_num, by rw [HR.out, Hnx.out, Hend.out, List.append_assoc]; exact Own5.out, below_drewN b5 _⟩
                case measure => simp [intOf]; omega
              · have hxb := Hxb.out
                have hI := HI.out
                simp only [List.concat_eq_append, List.length_append, List.length_singleton] at hxb hI
                rw [List.concat_eq_append] at own5
                have Hbub' := Lib.hid (show bub Q x = (insR x (X' ++ [y]).reverse).reverse ++ B by rw [← List.concat_eq_append]; exact Hbub.out)
                obtain ⟨p, hp⟩ : ∃ p, X'.length = p := ⟨_, rfl⟩
                rw [hp] at hxb hI
                have z1 : wr.cell? ⟨g, p + 1, none⟩ = some (.int .i64 x) := by rw [own5.cellAt (p + 1) (by omega), ← hp, II_mid2]
                have z2 : wr.cell? ⟨g, p, none⟩ = some (.int .i64 y) := by
                  rw [own5.cellAt p (by omega), ← hp, show X' ++ [y] ++ [x] ++ (B ++ R) = X' ++ [y] ++ ([x] ++ (B ++ R)) by simp, II_mid]
                have Own5 := Lib.hid own5
                have Hp := Lib.hid hp
                have hI0 : 0 ≤ I := by omega
                have hI1 : I < (f : Int) := by omega
                have hI2 : 0 < I := by omega
                have hI3 : I ≤ 1000010 := by omega
                have y1 : (0 : Int) ≤ ↑p := by omega
                have y2 : (p : Int) < (f : Int) := by omega
                have HIp := Lib.hid hI
                have Hxb' := Lib.hid hxb
                have hw1 : IntKind.i64.wrap (I - 1) = (p : Int) := by rw [IntWalk.i64_in _ (by omega)]; omega
                have hw3 : IntKind.i64.wrap (p : Int) = (p : Int) := IntWalk.i64_in _ (by omega)
                have hw2 : I - 1 = (p : Int) := by omega
                have ht1 : I.toNat = p + 1 := by omega
                clear own5 hp hI hxb
                by_cases hc1 : 0 < cls x
                · by_cases hc2 : cls x < cls y
                  · have Hins := Lib.hid (ins_step Hbub'.out ⟨hc1, hc2⟩)
                    go_wp2_with fail
                    go_region_held3 (fun w' => w'.cell? ⟨g, p + 1, none⟩ = some (.int .i64 x) ∧ w'.cell? ⟨g, p, none⟩ = some (.int .i64 y)) (first | go_keep | (refine ⟨keep1 hb1 ?_, keep1 hb1 ?_⟩ <;> go_keep))
                      (first
                        | (go_at_call 202; refine (class_spec _ _).mono ?_; rintro e w1 ⟨rfl, hb1⟩; (first | have hB3 := belN hB2 hb1 | have hB2 := belN hB1 hb1 | have hB1 := belN (bel0 wr).drew hb1)))
                    have own6 := own_below Own5.out hB3 (Nat.le_refl _)
                    have z1' := keep1 hB3 z1 (Nat.le_refl _)
                    have z2' := keep1 hB3 z2 (Nat.le_refl _)
                    have f1 := own_frozen own6 p
                    have f2 := own_frozen own6 (p + 1)
                    have Own6 := Lib.hid own6
                    have b6 := belN b5 hB3
                    clear own6 z1 z2
                    go_wp2
                    go_roundw
                    case rel =>
                      refine ⟨X', y :: B, _, rfl, ?_, ?_, Hins.out, ?_, ?_⟩
                      · have := HIp.out; have := Hp.out; show _ = _; omega
                      · have := Hxb'.out; have := Hp.out; show _ = _; rw [List.length_cons]; omega
                      · rw [List.cons_append]; exact swap_own Own6.out Hp.out
                      · exact belC (belC b6 _ _ hgb _) _ _ hgb _
                    case measure => simp [intOf]; omega
                  · have Hins := Lib.hid (ins_stop Hbub'.out (fun h => hc2 h.2))
                    go_wp2_with fail
                    go_region_held3 (fun w' => w'.cell? ⟨g, p + 1, none⟩ = some (.int .i64 x) ∧ w'.cell? ⟨g, p, none⟩ = some (.int .i64 y)) (first | go_keep | (refine ⟨keep1 hb1 ?_, keep1 hb1 ?_⟩ <;> go_keep))
                      (first
                        | (go_at_call 202; refine (class_spec _ _).mono ?_; rintro e w1 ⟨rfl, hb1⟩; (first | have hB3 := belN hB2 hb1 | have hB2 := belN hB1 hb1 | have hB1 := belN (bel0 wr).drew hb1)))
                    have own6 := Lib.hid (own_below Own5.out hB3 (Nat.le_refl _))
                    have b6 := belN b5 hB3
                    clear z1 z2
                    go_wp2
                    go_roundw
                    case rel => exact ⟨k + 1, by omega, by omega, by go_num, by rw [HR.out, Hnx.out, Hins.out, List.append_assoc]; exact own6.out, b6⟩
                    case measure => simp [intOf]; omega
                · have Hins := Lib.hid (ins_stop Hbub'.out (fun h => hc1 h.1))
                  have hd1 : decide (0 < cls x) = false := by simpa using hc1
                  go_wp2_with fail
                  refine wp_region_held_drew (S := fun w' => w'.cell? ⟨g, p + 1, none⟩ = some (.int .i64 x) ∧ w'.cell? ⟨g, p, none⟩ = some (.int .i64 y)) (by kernel_rfl) ⟨z1, z2⟩ (fun hHeld => ?_)
                  refine wpAnyH_take (i := 0) (oi := ?oi1) (v := ?v1) ?hi1 ?hs1 ?hf1 ?hr1 ?hQ1 ?hy1 ?hS1 ?hrest1
                  case hi1 => (conv => lhs; simp only [List.getElem?_toArray, List.getElem?_cons_zero]); try exact rfl
                  case hs1 => kernel_rfl
                  case hf1 => kernel_rfl
                  case hr1 => kernel_rfl
                  case hQ1 => exact fun _ _ _ h => h
                  case hS1 => assumption
                  case hy1 => refine Or.inl ⟨by rfl, ?_⟩; intro w hSw; (try dsimp only at hSw); go_simp; (try with_reducible rfl)
                  simp only [Act.put, List.setIfInBounds_toArray, List.set_cons_zero, List.set_cons_succ]
                  refine wpAnyH_take (i := 1) (oi := ?oi2) (v := ?v2) ?hi2 ?hs2 ?hf2 ?hr2 ?hQ2 ?hy2 ?hS2 ?hrest2
                  case hi2 => (conv => lhs; simp only [List.getElem?_toArray, List.getElem?_cons_zero, List.getElem?_cons_succ]); try exact rfl
                  case hs2 => kernel_rfl
                  case hf2 => kernel_rfl
                  case hr2 => kernel_rfl
                  case hQ2 => exact fun _ _ _ h => h
                  case hS2 => assumption
                  case hy2 => refine Or.inl ⟨by rfl, ?_⟩; intro w hSw; (try dsimp only at hSw); go_simp; (try with_reducible rfl)
                  simp only [Act.put, List.setIfInBounds_toArray, List.set_cons_zero, List.set_cons_succ]
                  refine wpAnyH_take (i := 2) (oi := ?oi3) (v := ?v3) ?hi3 ?hs3 ?hf3 ?hr3 ?hQ3 ?hy3 ?hS3 ?hrest3
                  case hi3 => (conv => lhs; simp only [List.getElem?_toArray, List.getElem?_cons_zero, List.getElem?_cons_succ]); try exact rfl
                  case hs3 => kernel_rfl
                  case hf3 => kernel_rfl
                  case hr3 => kernel_rfl
                  case hQ3 => exact fun _ _ _ h => h
                  case hS3 => assumption
                  case hy3 => refine Or.inl ⟨by rfl, ?_⟩; intro w hSw; (try dsimp only at hSw); go_simp; (try with_reducible rfl)
                  simp only [Act.put, List.setIfInBounds_toArray, List.set_cons_zero, List.set_cons_succ]
                  refine wpAnyH_take (i := 3) (oi := ?oi4) (v := ?v4) ?hi4 ?hs4 ?hf4 ?hr4 ?hQ4 ?hy4 ?hS4 ?hrest4
                  case hi4 => (conv => lhs; simp only [List.getElem?_toArray, List.getElem?_cons_zero, List.getElem?_cons_succ]); try exact rfl
                  case hs4 => kernel_rfl
                  case hf4 => kernel_rfl
                  case hr4 => kernel_rfl
                  case hQ4 => exact fun _ _ _ h => h
                  case hS4 => assumption
                  case hy4 => refine Or.inl ⟨by rfl, ?_⟩; intro w hSw; (try dsimp only at hSw); go_simp; (try with_reducible rfl)
                  simp only [Act.put, List.setIfInBounds_toArray, List.set_cons_zero, List.set_cons_succ]
                  refine wpAnyH_take (i := 4) (oi := ?oi5) (v := ?v5) ?hi5 ?hs5 ?hf5 ?hr5 ?hQ5 ?hy5 ?hS5 ?hrest5
                  case hi5 => (conv => lhs; simp only [List.getElem?_toArray, List.getElem?_cons_zero, List.getElem?_cons_succ]); try exact rfl
                  case hs5 => kernel_rfl
                  case hf5 => kernel_rfl
                  case hr5 => kernel_rfl
                  case hQ5 => exact fun _ _ _ h => h
                  case hS5 => assumption
                  case hy5 => refine Or.inl ⟨by rfl, ?_⟩; intro w hSw; (try dsimp only at hSw); go_simp; (try with_reducible rfl)
                  simp only [Act.put, List.setIfInBounds_toArray, List.set_cons_zero, List.set_cons_succ]
                  refine wpAnyH_take (i := 5) (oi := ?oi6) (v := ?v6) ?hi6 ?hs6 ?hf6 ?hr6 ?hQ6 ?hy6 ?hS6 ?hrest6
                  case hi6 => (conv => lhs; simp only [List.getElem?_toArray, List.getElem?_cons_zero, List.getElem?_cons_succ]); try exact rfl
                  case hs6 => kernel_rfl
                  case hf6 => kernel_rfl
                  case hr6 => kernel_rfl
                  case hQ6 => exact fun _ _ _ h => h
                  case hS6 => assumption
                  case hy6 => refine Or.inl ⟨by rfl, ?_⟩; intro w hSw; (try dsimp only at hSw); go_simp; (try with_reducible rfl)
                  simp only [Act.put, List.setIfInBounds_toArray, List.set_cons_zero, List.set_cons_succ]
                  refine wpAnyH_take (i := 6) (oi := ?oi7) (v := ?v7) ?hi7 ?hs7 ?hf7 ?hr7 ?hQ7 ?hy7 ?hS7 ?hrest7
                  case hi7 => (conv => lhs; simp only [List.getElem?_toArray, List.getElem?_cons_zero, List.getElem?_cons_succ]); try exact rfl
                  case hs7 => kernel_rfl
                  case hf7 => kernel_rfl
                  case hr7 => kernel_rfl
                  case hQ7 => exact fun _ _ _ h => h
                  case hS7 => assumption
                  case hy7 => refine Or.inl ⟨by rfl, ?_⟩; intro w hSw; (try dsimp only at hSw); go_simp; (try with_reducible rfl)
                  simp only [Act.put, List.setIfInBounds_toArray, List.set_cons_zero, List.set_cons_succ]
                  refine wpAnyH_ready (rs := [7]) (by kernel_rfl) (by simp) ?_
                  refine AllReadyH.cons (o := ?oi8) ?hi8 (fun K hK => ?_) AllReadyH.nil
                  case hi8 => (conv => lhs; simp only [List.getElem?_toArray, List.getElem?_cons_zero, List.getElem?_cons_succ]); try exact rfl
                  go_simp
                  go_at_call 202
                  refine (class_spec _ _).mono ?_
                  rintro e w1 ⟨rfl, hb1⟩
                  refine hK.out _ _ ⟨keep1 hb1 z1 (Nat.le_refl _), keep1 hb1 z2 (Nat.le_refl _)⟩ (fun hHeld2 => ?_)
                  clear hK K hHeld
                  refine wpAnyH_take (i := 8) (oi := ?oi9) (v := ?v9) ?hi9 ?hs9 ?hf9 ?hr9 ?hQ9 ?hy9 ?hS9 ?hrest9
                  case hi9 => (conv => lhs; simp only [List.getElem?_toArray, List.getElem?_cons_zero, List.getElem?_cons_succ]); try exact rfl
                  case hs9 => kernel_rfl
                  case hf9 => kernel_rfl
                  case hr9 => kernel_rfl
                  case hQ9 => exact fun _ _ _ h => h
                  case hS9 => assumption
                  case hy9 => refine Or.inl ⟨by rfl, ?_⟩; intro w hSw; (try dsimp only at hSw); go_simp; (try with_reducible rfl)
                  simp only [Act.put, List.setIfInBounds_toArray, List.set_cons_zero, List.set_cons_succ]
                  refine wpAnyH_take (i := 9) (oi := ?oi10) (v := ?v10) ?hi10 ?hs10 ?hf10 ?hr10 ?hQ10 ?hy10 ?hS10 ?hrest10
                  case hi10 => (conv => lhs; simp only [List.getElem?_toArray, List.getElem?_cons_zero, List.getElem?_cons_succ]); try exact rfl
                  case hs10 => kernel_rfl
                  case hf10 => kernel_rfl
                  case hr10 => kernel_rfl
                  case hQ10 => exact fun _ _ _ h => h
                  case hS10 => assumption
                  case hy10 => refine Or.inl ⟨by rfl, ?_⟩; intro w hSw; (try dsimp only at hSw); go_simp; (try with_reducible rfl)
                  simp only [Act.put, List.setIfInBounds_toArray, List.set_cons_zero, List.set_cons_succ]
                  refine wpAnyH_take (i := 10) (oi := ?oi11) (v := ?v11) ?hi11 ?hs11 ?hf11 ?hr11 ?hQ11 ?hy11 ?hS11 ?hrest11
                  case hi11 => (conv => lhs; simp only [List.getElem?_toArray, List.getElem?_cons_zero, List.getElem?_cons_succ]); try exact rfl
                  case hs11 => kernel_rfl
                  case hf11 => kernel_rfl
                  case hr11 => kernel_rfl
                  case hQ11 => exact fun _ _ _ h => h
                  case hS11 => assumption
                  case hy11 => refine Or.inl ⟨by rfl, ?_⟩; intro w hSw; (try dsimp only at hSw); go_simp; (try with_reducible rfl)
                  simp only [Act.put, List.setIfInBounds_toArray, List.set_cons_zero, List.set_cons_succ]
                  refine wpAnyH_take (i := 11) (oi := ?oi12) (v := undef) ?hi12 ?hs12 ?hf12 ?hr12 ?hQ12 ?hy12 ?hS12 ?hrest12
                  case hi12 => (conv => lhs; simp only [List.getElem?_toArray, List.getElem?_cons_zero, List.getElem?_cons_succ]); try exact rfl
                  case hs12 => kernel_rfl
                  case hf12 => kernel_rfl
                  case hr12 => kernel_rfl
                  case hQ12 => exact fun _ _ _ h => h
                  case hS12 => assumption
                  case hy12 => exact Or.inr ⟨by rfl, rfl⟩
                  simp only [Act.put, List.setIfInBounds_toArray, List.set_cons_zero, List.set_cons_succ]
                  refine wpAnyH_take (i := 12) (oi := ?oi13) (v := undef) ?hi13 ?hs13 ?hf13 ?hr13 ?hQ13 ?hy13 ?hS13 ?hrest13
                  case hi13 => (conv => lhs; simp only [List.getElem?_toArray, List.getElem?_cons_zero, List.getElem?_cons_succ]); try exact rfl
                  case hs13 => kernel_rfl
                  case hf13 => kernel_rfl
                  case hr13 => kernel_rfl
                  case hQ13 => exact fun _ _ _ h => h
                  case hS13 => assumption
                  case hy13 => exact Or.inr ⟨by rfl, rfl⟩
                  simp only [Act.put, List.setIfInBounds_toArray, List.set_cons_zero, List.set_cons_succ]
                  refine wpAnyH_take (i := 13) (oi := ?oi14) (v := undef) ?hi14 ?hs14 ?hf14 ?hr14 ?hQ14 ?hy14 ?hS14 ?hrest14
                  case hi14 => (conv => lhs; simp only [List.getElem?_toArray, List.getElem?_cons_zero, List.getElem?_cons_succ]); try exact rfl
                  case hs14 => kernel_rfl
                  case hf14 => kernel_rfl
                  case hr14 => kernel_rfl
                  case hQ14 => exact fun _ _ _ h => h
                  case hS14 => assumption
                  case hy14 => exact Or.inr ⟨by rfl, rfl⟩
                  simp only [Act.put, List.setIfInBounds_toArray, List.set_cons_zero, List.set_cons_succ]
                  refine wpAnyH_take (i := 14) (oi := ?oi15) (v := undef) ?hi15 ?hs15 ?hf15 ?hr15 ?hQ15 ?hy15 ?hS15 ?hrest15
                  case hi15 => (conv => lhs; simp only [List.getElem?_toArray, List.getElem?_cons_zero, List.getElem?_cons_succ]); try exact rfl
                  case hs15 => kernel_rfl
                  case hf15 => kernel_rfl
                  case hr15 => kernel_rfl
                  case hQ15 => exact fun _ _ _ h => h
                  case hS15 => assumption
                  case hy15 => exact Or.inr ⟨by rfl, rfl⟩
                  simp only [Act.put, List.setIfInBounds_toArray, List.set_cons_zero, List.set_cons_succ]
                  refine wpAnyH_take (i := 15) (oi := ?oi16) (v := undef) ?hi16 ?hs16 ?hf16 ?hr16 ?hQ16 ?hy16 ?hS16 ?hrest16
                  case hi16 => (conv => lhs; simp only [List.getElem?_toArray, List.getElem?_cons_zero, List.getElem?_cons_succ]); try exact rfl
                  case hs16 => kernel_rfl
                  case hf16 => kernel_rfl
                  case hr16 => kernel_rfl
                  case hQ16 => exact fun _ _ _ h => h
                  case hS16 => assumption
                  case hy16 => exact Or.inr ⟨by rfl, rfl⟩
                  simp only [Act.put, List.setIfInBounds_toArray, List.set_cons_zero, List.set_cons_succ]
                  refine wpAnyH_take (i := 16) (oi := ?oi17) (v := undef) ?hi17 ?hs17 ?hf17 ?hr17 ?hQ17 ?hy17 ?hS17 ?hrest17
                  case hi17 => (conv => lhs; simp only [List.getElem?_toArray, List.getElem?_cons_zero, List.getElem?_cons_succ]); try exact rfl
                  case hs17 => kernel_rfl
                  case hf17 => kernel_rfl
                  case hr17 => kernel_rfl
                  case hQ17 => exact fun _ _ _ h => h
                  case hS17 => assumption
                  case hy17 => exact Or.inr ⟨by rfl, rfl⟩
                  simp only [Act.put, List.setIfInBounds_toArray, List.set_cons_zero, List.set_cons_succ]
                  refine wpAnyH_take (i := 17) (oi := ?oi18) (v := undef) ?hi18 ?hs18 ?hf18 ?hr18 ?hQ18 ?hy18 ?hS18 ?hrest18
                  case hi18 => (conv => lhs; simp only [List.getElem?_toArray, List.getElem?_cons_zero, List.getElem?_cons_succ]); try exact rfl
                  case hs18 => kernel_rfl
                  case hf18 => kernel_rfl
                  case hr18 => kernel_rfl
                  case hQ18 => exact fun _ _ _ h => h
                  case hS18 => assumption
                  case hy18 => exact Or.inr ⟨by rfl, rfl⟩
                  simp only [Act.put, List.setIfInBounds_toArray, List.set_cons_zero, List.set_cons_succ]
                  refine wpAnyH_take (i := 18) (oi := ?oi19) (v := undef) ?hi19 ?hs19 ?hf19 ?hr19 ?hQ19 ?hy19 ?hS19 ?hrest19
                  case hi19 => (conv => lhs; simp only [List.getElem?_toArray, List.getElem?_cons_zero, List.getElem?_cons_succ]); try exact rfl
                  case hs19 => kernel_rfl
                  case hf19 => kernel_rfl
                  case hr19 => kernel_rfl
                  case hQ19 => exact fun _ _ _ h => h
                  case hS19 => assumption
                  case hy19 => exact Or.inr ⟨by rfl, rfl⟩
                  simp only [Act.put, List.setIfInBounds_toArray, List.set_cons_zero, List.set_cons_succ]
                  refine wpAnyH_take (i := 19) (oi := ?oi20) (v := undef) ?hi20 ?hs20 ?hf20 ?hr20 ?hQ20 ?hy20 ?hS20 ?hrest20
                  case hi20 => (conv => lhs; simp only [List.getElem?_toArray, List.getElem?_cons_zero, List.getElem?_cons_succ]); try exact rfl
                  case hs20 => kernel_rfl
                  case hf20 => kernel_rfl
                  case hr20 => kernel_rfl
                  case hQ20 => exact fun _ _ _ h => h
                  case hS20 => assumption
                  case hy20 => exact Or.inr ⟨by rfl, rfl⟩
                  simp only [Act.put, List.setIfInBounds_toArray, List.set_cons_zero, List.set_cons_succ]
                  refine wpAnyH_take (i := 20) (oi := ?oi21) (v := undef) ?hi21 ?hs21 ?hf21 ?hr21 ?hQ21 ?hy21 ?hS21 ?hrest21
                  case hi21 => (conv => lhs; simp only [List.getElem?_toArray, List.getElem?_cons_zero, List.getElem?_cons_succ]); try exact rfl
                  case hs21 => kernel_rfl
                  case hf21 => kernel_rfl
                  case hr21 => kernel_rfl
                  case hQ21 => exact fun _ _ _ h => h
                  case hS21 => assumption
                  case hy21 => exact Or.inr ⟨by rfl, rfl⟩
                  simp only [Act.put, List.setIfInBounds_toArray, List.set_cons_zero, List.set_cons_succ]
                  refine wpAnyH_take (i := 21) (oi := ?oi22) (v := undef) ?hi22 ?hs22 ?hf22 ?hr22 ?hQ22 ?hy22 ?hS22 ?hrest22
                  case hi22 => (conv => lhs; simp only [List.getElem?_toArray, List.getElem?_cons_zero, List.getElem?_cons_succ]); try exact rfl
                  case hs22 => kernel_rfl
                  case hf22 => kernel_rfl
                  case hr22 => kernel_rfl
                  case hQ22 => exact fun _ _ _ h => h
                  case hS22 => assumption
                  case hy22 => exact Or.inr ⟨by rfl, rfl⟩
                  simp only [Act.put, List.setIfInBounds_toArray, List.set_cons_zero, List.set_cons_succ]
                  refine wpAnyH_take (i := 22) (oi := ?oi23) (v := undef) ?hi23 ?hs23 ?hf23 ?hr23 ?hQ23 ?hy23 ?hS23 ?hrest23
                  case hi23 => (conv => lhs; simp only [List.getElem?_toArray, List.getElem?_cons_zero, List.getElem?_cons_succ]); try exact rfl
                  case hs23 => kernel_rfl
                  case hf23 => kernel_rfl
                  case hr23 => kernel_rfl
                  case hQ23 => exact fun _ _ _ h => h
                  case hS23 => assumption
                  case hy23 => exact Or.inr ⟨by rfl, rfl⟩
                  simp only [Act.put, List.setIfInBounds_toArray, List.set_cons_zero, List.set_cons_succ]
                  refine wpAnyH_take (i := 23) (oi := ?oi24) (v := ?v24) ?hi24 ?hs24 ?hf24 ?hr24 ?hQ24 ?hy24 ?hS24 ?hrest24
                  case hi24 => (conv => lhs; simp only [List.getElem?_toArray, List.getElem?_cons_zero, List.getElem?_cons_succ]); try exact rfl
                  case hs24 => kernel_rfl
                  case hf24 => kernel_rfl
                  case hr24 => kernel_rfl
                  case hQ24 => exact fun _ _ _ h => h
                  case hS24 => assumption
                  case hy24 => refine Or.inl ⟨by rfl, ?_⟩; intro w hSw; (try dsimp only at hSw); go_simp; (try with_reducible rfl)
                  simp only [Act.put, List.setIfInBounds_toArray, List.set_cons_zero, List.set_cons_succ]
                  refine wpAnyH_done (by kernel_rfl) ?_ _
                  have hB1 := belN (bel0 wr).drew hb1
                  have own6 := Lib.hid (own_below Own5.out hB1 (Nat.le_refl _))
                  have b6 := belN b5 hB1
                  clear z1 z2
                  go_wp2
                  go_roundw
                  case rel => exact ⟨k + 1, by omega, by omega, by go_num, by rw [HR.out, Hnx.out, Hins.out, List.append_assoc]; exact own6.out, b6⟩
                  case measure => simp [intOf]; omega

          · obtain rfl : k = f := by omega
            rw [List.take_of_length_le (by have := Hf.out; omega), List.drop_eq_nil_of_le (by have := Hf.out; omega), List.append_nil] at hown2
            go_wp2
            go_ret
            exact ⟨_, rfl, by rw [Hap.out, bubs_len, List.length_nil, Nat.zero_add, Hf.out]; exact hown2, hbel2⟩

end Go.Proofs.YtlgjehdocppofaaDoor
