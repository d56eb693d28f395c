/- Signs taken apart, marks in order, in the program. -/
import Derived.Test.YtlgjehdocppofaaDoorTake
import Derived.Test.YtlgjehdocppofaaDoorIsPg
import Derived.BigQuiet
import Derived.BigRegion
namespace Go.Proofs.YtlgjehdocppofaaDoor
open Go Go.RowKit

theorem class_quiet (c : Int) (w : World) : Calls Tryd.prog 196 #[.int .i64 c] w fun e w' => e = .returned (.int .i64 (cls c)) ∧ w' = w :=
  (class_impl c w).mono fun _ _ ⟨he, hw⟩ => ⟨he, hw.symm⟩
theorem own_sep' {w w' : World} {b e' : Nat} {e : TypeId} {s s' n n' : Nat} {v v' : Value} {xs xs' : List Value} (h : w.ownsRow b e s v n xs) (h' : w'.ownsRow w.heap.size e' s' v' n' xs') : v'.ownBlock = none ∨ v'.ownBlock ≠ v.ownBlock := by
  cases hv : v'.ownBlock with
  | none => exact .inl rfl
  | some k =>
    refine .inr fun e => ?_
    have h2 := h'.lt k hv
    have h1 := h.lt k e.symm
    omega
theorem sep_keep {w : World} {b : Nat} {e : TypeId} {s n : Nat} {v v0 v1 : Value} {xs : List Value} (h : w.ownsRow b e s v n xs) (hne : v.ownBlock = none ∨ v.ownBlock ≠ v0.ownBlock)
    (h1 : v1.ownBlock = v0.ownBlock ∨ v1.ownBlock = some w.heap.size) : v.ownBlock = none ∨ v.ownBlock ≠ v1.ownBlock := by
  cases hv : v.ownBlock with
  | none => exact .inl rfl
  | some k =>
    refine .inr fun hk => ?_
    rcases h1 with h1 | h1
    · rcases hne with hne | hne
      · rw [hne] at hv; cases hv
      · exact hne (by rw [hv, hk, h1])
    · have := (h.lt k hv).2
      rw [h1] at hk
      injection hk with hk
      omega
theorem swap_list (A B : List Int) (x y : Int) : (((II (A ++ [y] ++ [x] ++ B)).set (A.length + 1) (.int .i64 y)).set A.length (.int .i64 x)) = II (A ++ [x] ++ (y :: B)) := by
  simp [II]
theorem swap_list' (A B : List Int) (x y : Int) : (((II (A ++ [y] ++ [x] ++ B)).set A.length (.int .i64 x)).set (A.length + 1) (.int .i64 y)) = II (A ++ [x] ++ (y :: B)) := by
  simp [II]
theorem II_mid (A B : List Int) (x : Int) : (II (A ++ [x] ++ B))[A.length]? = some (.int .i64 x) := by simp [II]
theorem II_mid2 (A B : List Int) (x y : Int) : (II (A ++ [y] ++ [x] ++ B))[A.length + 1]? = some (.int .i64 x) := by simp [II]
theorem swap_own {w : World} {base : Nat} {T : TypeId} {n g c p : Nat} {X B : List Int} {x y : Int} (h : w.ownsRow base T 1 (.slice (some ⟨g, 0, none⟩) n c) n (II (X ++ [y] ++ [x] ++ B))) (hp : X.length = p) :
    ((w.setCell ⟨g, p + 1, none⟩ (.int .i64 y)).setCell ⟨g, p, none⟩ (.int .i64 x)).ownsRow base T 1 (.slice (some ⟨g, 0, none⟩) n c) n (II (X ++ [x] ++ (y :: B))) := by
  subst hp
  rw [← swap_list]
  exact own_set (own_set h _ _) _ _
theorem swap_own' {w : World} {base : Nat} {T : TypeId} {n g c p : Nat} {X B : List Int} {x y : Int} (h : w.ownsRow base T 1 (.slice (some ⟨g, 0, none⟩) n c) n (II (X ++ [y] ++ [x] ++ B))) (hp : X.length = p) :
    ((w.setCell ⟨g, p, none⟩ (.int .i64 x)).setCell ⟨g, p + 1, none⟩ (.int .i64 y)).ownsRow base T 1 (.slice (some ⟨g, 0, none⟩) n c) n (II (X ++ [x] ++ (y :: B))) := by
  subst hp
  rw [← swap_list']
  exact own_set (own_set h _ _) _ _
theorem last_split (A : List Int) (h : 0 < A.length) : ∃ A' y, A = A' ++ [y] := by
  rcases List.eq_nil_or_concat A with rfl | ⟨A', y, rfl⟩
  · simp at h
  · exact ⟨A', y, by simp⟩

set_option maxRecDepth 100000 in
set_option maxHeartbeats 8000000 in
theorem apart_impl (A : Option Addr) (n c : Nat) (xs : List Int) (hl : xs.length = n) (hn : n ≤ 100000) (w : World) (hr : Reads w w.heap.size 1 A n (II xs)) :
    Calls Tryd.prog 177 #[.slice A n c] w (RowPost w 3 (apartL xs)) := by
  have Hr := Lib.hid hr
  have HL := Lib.hid hl
  clear hr hl
  go_enter Tryd.func177, Tryd.ntmps177
  go_wp2
  go_loopw [3, 12] (fun v i wr => ∃ (k : Nat), k ≤ n ∧ i = .int .i64 k ∧ wr.ownsRow w.heap.size 3 1 v (((xs.take k).flatMap takL).foldl bub []).length (II (((xs.take k).flatMap takL).foldl bub [])) ∧ Below w.heap.size w wr)
    (fun _ i _ => n - (intOf i).toNat)
  case atStart => exact ⟨0, by omega, rfl, lit_at w w 3 [] _ _ rfl (Nat.le_refl _) rfl (by simp), belA (bel0 w) _⟩
  case round =>
    obtain ⟨k, hk, rfl, hown, hbel⟩ := hrel
    have hsz := hbel.size
    by_cases hlt : k < n
    · obtain ⟨hkx, ad, rfl, hadb, hcell⟩ := reads_at (Hr.out.below hbel) hlt
      have Hs := Lib.hid (show ((xs.take (k + 1)).flatMap takL).foldl bub [] = (takL xs[k]).foldl bub (((xs.take k).flatMap takL).foldl bub []) by
        rw [List.take_succ_eq_append_getElem hkx, List.flatMap_append, List.foldl_append]; simp)
      have hlen : (((xs.take k).flatMap takL).foldl bub []).length ≤ 1000000 := by
        rw [bubs_len]
        have h1 := flatMap_len (b := 9) (xs.take k) (fun x _ => takL_len x)
        rw [List.length_take] at h1
        simp only [List.length_nil]; omega
      have hlen2 : (takL xs[k]).length ≤ 9 := takL_len _
      obtain ⟨x0, hx⟩ : ∃ x, xs[k] = x := ⟨_, rfl⟩
      rw [hx] at hcell Hs hlen2
      clear hx
      have q0 : (0 : Int) ≤ ↑k := by omega
      have q1 : (k : Int) < ↑n := by omega
      go_wp2_with fail
      refine (taken_impl x0 _).mono ?_
      rintro e w2 ⟨v2, rfl, hown2, hb2⟩
      have own1 := own_below hown hb2 (Nat.le_refl _)
      have hsep := own_sep' hown hown2
      have hs2 := hb2.size
      obtain ⟨A2, c2, rfl, _, _, hr2⟩ := own_vals hown2
      obtain ⟨P, hP⟩ : ∃ P, ((xs.take k).flatMap takL).foldl bub [] = P := ⟨_, rfl⟩
      obtain ⟨L2, hL2⟩ : ∃ L2, takL x0 = L2 := ⟨_, rfl⟩
      rw [hP] at own1 hlen Hs
      rw [hL2] at hown2 hlen2 hsep Hs ⊢
      obtain ⟨m, hm⟩ : ∃ m, L2.length = m := ⟨_, rfl⟩
      have Hm := Lib.hid hm
      rw [hm] at hown2 hlen2 hsep ⊢
      have Own1 := Lib.hid own1
      have Own2 := Lib.hid hown2
      have Hsep := Lib.hid hsep
      have b2 := belN hbel hb2
      clear hown hcell hP hL2 hr2 hm own1 hown2 hsep hb2
      rename World => w2'
      go_wp2
      go_loopw [3, 19] (fun v i wr => ∃ (j : Nat), j ≤ m ∧ i = .int .i64 j ∧ wr.ownsRow w.heap.size 3 1 v ((L2.take j).foldl bub P).length (II ((L2.take j).foldl bub P)) ∧ (∃ b0, wr.ownsRow b0 3 1 (.slice A2 m c2) m (II L2)) ∧
          Hid ((Value.slice A2 m c2).ownBlock = none ∨ (Value.slice A2 m c2).ownBlock ≠ v.ownBlock) ∧ Below w.heap.size w wr)
        (fun _ i _ => m - (intOf i).toNat)
      case atStart => exact ⟨0, by omega, rfl, Own1.out, ⟨_, Own2.out⟩, Hsep.out, b2⟩
      case round =>
        obtain ⟨j, hj, rfl, hown, ⟨b0, hown2⟩, hsep, hbel2⟩ := hrel
        have hsz2 := hbel2.size
        by_cases hlt2 : j < m
        · obtain ⟨hjx, ad2, rfl, hadb2, hcell⟩ := reads_at (Reads.own hown2) hlt2
          have Hs2 := Lib.hid (show (L2.take (j + 1)).foldl bub P = bub ((L2.take j).foldl bub P) L2[j] by
            rw [List.take_succ_eq_append_getElem hjx, List.foldl_append]; rfl)
          have hlen3 : ((L2.take j).foldl bub P).length ≤ 1000009 := by
            rw [bubs_len, List.length_take]; omega
          obtain ⟨x, hx⟩ : ∃ x, L2[j] = x := ⟨_, rfl⟩
          rw [hx] at hcell Hs2
          clear hx
          obtain ⟨Q, hQ⟩ : ∃ Q, (L2.take j).foldl bub P = Q := ⟨_, rfl⟩
          rw [hQ] at hown hlen3 Hs2
          clear hQ
          obtain ⟨q, hq⟩ : ∃ q, Q.length = q := ⟨_, rfl⟩
          have Hq := Lib.hid hq
          rw [hq] at hown hlen3
          clear hq
          have p0 : (0 : Int) ≤ ↑j := by omega
          have p1 : (j : Int) < ↑m := by omega
          have Own := Lib.hid hown
          have Own2 := Lib.hid hown2
          clear hown hown2
          go_wp2_with (at_builtin; go_must (refine wpList_app _ rfl _ _ _ rfl Tryd.el_int (Own.out.alloc _) rfl (reads_new _ _ _ _ 1 (by rfl)) rfl (by simp [Value.oneCell']) (max_small (by omega)) (by omega) (by simp; omega) ?_); intro v4 w4 own4 hg4 hsame4 hb4; obtain ⟨g, c4, rfl⟩ := own_form1 own4 (by omega))
          have Own24 := Lib.hid ((Own2.out.alloc _).kept hg4 hsep.out)
          have hsep4 := Lib.hid (sep_keep (Own2.out.alloc _) hsep.out hsame4)
          have b4 := (belA hbel2 _).trans hb4
          have hlt4 := hb4.size
          have Own4 := Lib.hid own4
          have hgb := (own_lt own4).1
          clear own4 hg4 hsame4 hcell
          rename World => w5
          go_loopw [8] (fun i wr => ∃ (X B : List Int) (I : Int), i = .int .i64 I ∧ Hid (I = (X.length : Int)) ∧ Hid (X.length + B.length = q) ∧ Hid (bub Q x = (insR x X.reverse).reverse ++ B) ∧ wr.ownsRow w.heap.size 3 1 (.slice (some ⟨g, 0, none⟩) (q + 1) c4) (q + 1) (II (X ++ [x] ++ B)) ∧ w5.grownBy wr (some g))
            (fun i _ => (intOf i).toNat)
          case atStart => exact ⟨Q, [], _, rfl, by show _ = _; rw [Hq.out], by show _ = _; rw [Hq.out]; rfl, by show _ = _; rw [List.append_nil]; rfl, by rw [List.append_nil, II_append]; exact Own4.out, grown_refl _ _⟩
          case round =>
            obtain ⟨X, B, I, rfl, HI, Hxb, Hbub, own5, hg5⟩ := hrel
            have own24 := Lib.hid (Own24.out.kept (show w5.grownBy wr (Value.slice (some ⟨g, 0, none⟩) (q + 1) c4).ownBlock from hg5) hsep4.out)
            have b5 := belG b4 hg5 hgb
            rcases List.eq_nil_or_concat X with rfl | ⟨X', y, rfl⟩
            · have hI : I = 0 := HI.out
              have hI0 : decide (0 < I) = false := by simp [hI]
              have Hend := Lib.hid (ins_end Hbub.out)
              have Own5 := Lib.hid own5
              clear own5 hI
              go_wp2_with fail
              go_quiet (fail)
              go_wp2
              go_roundw
              case rel => exact ⟨j + 1, by omega, by go_num, by rw [Hs2.out, bub_len, Hend.out, Hq.out]; exact Own5.out, ⟨_, own24.out⟩, hsep4.out, below_drewN b5 _⟩
              case measure => simp [intOf]; omega
            · have hxb := Hxb.out
              have hI := HI.out
              simp only [List.concat_eq_append, List.length_append, List.length_singleton] at hxb hI
              rw [List.concat_eq_append] at own5
              have Hbub' := Lib.hid (show bub Q x = (insR x (X' ++ [y]).reverse).reverse ++ B by rw [← List.concat_eq_append]; exact Hbub.out)
              obtain ⟨p, hp⟩ : ∃ p, X'.length = p := ⟨_, rfl⟩
              rw [hp] at hxb hI
              have z1 : wr.cell? ⟨g, p + 1, none⟩ = some (.int .i64 x) := by rw [own5.cellAt (p + 1) (by omega), ← hp, II_mid2]
              have z2 : wr.cell? ⟨g, p, none⟩ = some (.int .i64 y) := by
                rw [own5.cellAt p (by omega), ← hp, show X' ++ [y] ++ [x] ++ B = X' ++ [y] ++ ([x] ++ B) by simp, II_mid]
              have f1 := own_frozen own5 p
              have f2 := own_frozen own5 (p + 1)
              have Own5 := Lib.hid own5
              have Hp := Lib.hid hp
              have hI0 : 0 ≤ I := by omega
              have hI1 : I < ((q + 1 : Nat) : Int) := by omega
              have hI2 : 0 < I := by omega
              have hI3 : I ≤ 1000010 := by omega
              have y1 : (0 : Int) ≤ ↑p := by omega
              have y2 : (p : Int) < ((q + 1 : Nat) : Int) := by omega
              have HIp := Lib.hid hI
              have Hxb' := Lib.hid hxb
              have hw1 : IntKind.i64.wrap (I - 1) = (p : Int) := by rw [IntWalk.i64_in _ (by omega)]; omega
              have hw2 : I - 1 = (p : Int) := by omega
              have ht1 : I.toNat = p + 1 := by omega
              clear own5 hp hI hxb
              by_cases hc1 : 0 < cls x
              · by_cases hc2 : cls x < cls y
                · have Hins := Lib.hid (ins_step Hbub'.out ⟨hc1, hc2⟩)
                  go_wp2_with fail
                  go_quiet ((go_at_call 196; exact Calls.quiet_of_same (class_quiet _ _)))
                  go_wp2_with fail
                  go_region
                  all_goals
                    go_wp2
                    go_roundw
                    case rel =>
                      refine ⟨X', y :: B, _, rfl, ?_, ?_, Hins.out, ?_, ?_⟩
                      · have := HIp.out; have := Hp.out; show _ = _; omega
                      · have := Hxb'.out; have := Hp.out; show _ = _; rw [List.length_cons]; omega
                      · first | exact swap_own Own5.out Hp.out | exact swap_own' Own5.out Hp.out
                      · exact only_sc (only_sc (only_drew (only_drewN hg5 _)) _ _) _ _
                    case measure => simp [intOf]; omega
                · have Hins := Lib.hid (ins_stop Hbub'.out (fun h => hc2 h.2))
                  go_wp2_with fail
                  go_quiet ((go_at_call 196; exact Calls.quiet_of_same (class_quiet _ _)))
                  go_wp2
                  go_roundw
                  case rel => exact ⟨j + 1, by omega, by go_num, by rw [Hs2.out, bub_len, Hins.out, Hq.out]; exact Own5.out, ⟨_, own24.out⟩, hsep4.out, below_drewN b5 _⟩
                  case measure => simp [intOf]; omega
              · have Hins := Lib.hid (ins_stop Hbub'.out (fun h => hc1 h.1))
                have hd1 : decide (0 < cls x) = false := by simpa using hc1
                go_wp2_with fail
                go_quiet ((go_at_call 196; exact Calls.quiet_of_same (class_quiet _ _)))
                go_wp2
                go_roundw
                case rel => exact ⟨j + 1, by omega, by go_num, by rw [Hs2.out, bub_len, Hins.out, Hq.out]; exact Own5.out, ⟨_, own24.out⟩, hsep4.out, below_drewN b5 _⟩
                case measure => simp [intOf]; omega
        · obtain rfl : j = m := by omega
          rw [List.take_of_length_le (by have := Hm.out; omega)] at hown
          go_wp2
          go_roundw
          case rel => exact ⟨k + 1, by omega, by go_num, by rw [Hs.out]; exact hown, hbel2⟩
          case measure => simp [intOf]; omega
    · obtain rfl : k = n := by omega
      rw [List.take_of_length_le (by have := HL.out; omega)] at hown
      go_wp2
      go_ret
      exact ⟨_, rfl, hown, hbel⟩

end Go.Proofs.YtlgjehdocppofaaDoor
