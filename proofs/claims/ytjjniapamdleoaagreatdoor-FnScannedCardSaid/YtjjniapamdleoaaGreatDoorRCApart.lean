/- Apart, names and keys of both sides. -/
import Derived.Test.YtjjniapamdleoaaGreatDoorRCPts
import Derived.Test.YtjjniapamdleoaaGreatDoorRCIsPg
import Derived.BigQuiet
import Derived.BigRegion
import Derived.Test.YtjjniapamdleoaaGreatDoorRCSgn
namespace Go.Proofs.YtjjniapamdleoaaGreatDoor
open Go Go.RowKit
set_option maxHeartbeats 8000000
set_option maxRecDepth 100000

theorem class_quiet (c : Int) (w : World) : Calls Tryz.prog 210 #[.int .i64 c] w fun e w' => e = .returned (.int .i64 (cls c)) /\ w' = w :=
 (class_impl c w).mono fun _ _ ⟨he, hw⟩ => ⟨he, hw.symm⟩
theorem own_sep' {w w' : World} {b e' : Nat} {e : TypeId} {s s' n n' : Nat} {v v' : Value} {xs xs' : List Value} (h : w.ownsRow b e s v n xs) (h' : w'.ownsRow w.heap.size e' s' v' n' xs') : v'.ownBlock = none ∨ v'.ownBlock ≠ v.ownBlock := by
 cases hv : v'.ownBlock with
 | none => exact .inl rfl
 | some k =>
  refine .inr fun e => ?_
  have h2 := h'.lt k hv
  have h1 := h.lt k e.symm
  omega
theorem sep_keep {w : World} {b : Nat} {e : TypeId} {s n : Nat} {v v0 v1 : Value} {xs : List Value} (h : w.ownsRow b e s v n xs) (hne : v.ownBlock = none ∨ v.ownBlock ≠ v0.ownBlock)
  (h1 : v1.ownBlock = v0.ownBlock ∨ v1.ownBlock = some w.heap.size) : v.ownBlock = none ∨ v.ownBlock ≠ v1.ownBlock := by
 cases hv : v.ownBlock with
 | none => exact .inl rfl
 | some k =>
  refine .inr fun hk => ?_
  rcases h1 with h1 | h1
  ·rcases hne with hne | hne
   ·rw [hne] at hv; cases hv
   ·exact hne (by rw [hv, hk, h1])
  ·have := (h.lt k hv).2
   rw [h1] at hk
   injection hk with hk
   omega
theorem swap_list (A B : List Int) (x y : Int) : (((II (A ++ [y] ++ [x] ++ B)).set (A.length + 1) (.int .i64 y)).set A.length (.int .i64 x)) = II (A ++ [x] ++ (y :: B)) := by
 simp [II]
theorem swap_list' (A B : List Int) (x y : Int) : (((II (A ++ [y] ++ [x] ++ B)).set A.length (.int .i64 x)).set (A.length + 1) (.int .i64 y)) = II (A ++ [x] ++ (y :: B)) := by
 simp [II]
theorem II_mid (A B : List Int) (x : Int) : (II (A ++ [x] ++ B))[A.length]? = some (.int .i64 x) := by simp [II]
theorem II_mid2 (A B : List Int) (x y : Int) : (II (A ++ [y] ++ [x] ++ B))[A.length + 1]? = some (.int .i64 x) := by simp [II]
theorem swap_own {w : World} {base : Nat} {T : TypeId} {n g c p : Nat} {X B : List Int} {x y : Int} (h : w.ownsRow base T 1 (.slice (some ⟨g, 0, none⟩) n c) n (II (X ++ [y] ++ [x] ++ B))) (hp : X.length = p) :
  ((w.setCell ⟨g, p + 1, none⟩ (.int .i64 y)).setCell ⟨g, p, none⟩ (.int .i64 x)).ownsRow base T 1 (.slice (some ⟨g, 0, none⟩) n c) n (II (X ++ [x] ++ (y :: B))) := by
 subst hp
 rw [<- swap_list]
 exact own_set (own_set h _ _) _ _
theorem swap_own' {w : World} {base : Nat} {T : TypeId} {n g c p : Nat} {X B : List Int} {x y : Int} (h : w.ownsRow base T 1 (.slice (some ⟨g, 0, none⟩) n c) n (II (X ++ [y] ++ [x] ++ B))) (hp : X.length = p) :
  ((w.setCell ⟨g, p, none⟩ (.int .i64 x)).setCell ⟨g, p + 1, none⟩ (.int .i64 y)).ownsRow base T 1 (.slice (some ⟨g, 0, none⟩) n c) n (II (X ++ [x] ++ (y :: B))) := by
 subst hp
 rw [<- swap_list']
 exact own_set (own_set h _ _) _ _
theorem apart_impl (A : Option Addr) (n c : Nat) (xs : List Int) (hl : xs.length = n) (hn : n <= 100000) (w : World) (hr : Reads w w.heap.size 1 A n (II xs)) :
  Calls Tryz.prog 208 #[.slice A n c] w (RowPost w 3 (apartL xs)) := by
 have Hr := Lib.hid hr
 have HL := Lib.hid hl
 clear hr hl
 go_enter Tryz.func208, Tryz.ntmps208
 go_wp2
 go_loopw [3, 12] (fun v i wr => ∃ (k : Nat), k <= n /\ i = .int .i64 k /\ wr.ownsRow w.heap.size 3 1 v (((xs.take k).flatMap takL).foldl bub []).length (II (((xs.take k).flatMap takL).foldl bub [])) /\ Below w.heap.size w wr)
  (fun _ i _ => n - (intOf i).toNat)
 case atStart => exact ⟨0, by omega, rfl, lit_at w w 3 [] _ _ rfl (Nat.le_refl _) rfl (by simp), belA (bel0 w) _⟩
 case round =>
  obtain ⟨k, hk, rfl, hown, hbel⟩ := hrel
  have hsz := hbel.size
  by_cases hlt : k < n
  ·obtain ⟨hkx, ad, rfl, hadb, hcell⟩ := reads_at (Hr.out.below hbel) hlt
   have Hs := Lib.hid (show ((xs.take (k + 1)).flatMap takL).foldl bub [] = (takL xs[k]).foldl bub (((xs.take k).flatMap takL).foldl bub []) by
    rw [List.take_succ_eq_append_getElem hkx, List.flatMap_append, List.foldl_append]; simp)
   have hlen : (((xs.take k).flatMap takL).foldl bub []).length <= 1000000 := by
    rw [bubs_len]
    have h1 := flatMap_len (b := 9) (xs.take k) (fun x _ => takL_len x)
    rw [List.length_take] at h1
    simp only [List.length_nil]; omega
   have hlen2 : (takL xs[k]).length <= 9 := takL_len _
   obtain ⟨x0, hx⟩ : ∃ x, xs[k] = x := ⟨_, rfl⟩
   rw [hx] at hcell Hs hlen2
   clear hx
   have q0 : (0 : Int) <= ↑k := by omega
   have q1 : (k : Int) < ↑n := by omega
   go_wp2_with fail
   refine (taken_impl x0 _).mono ?_
   rintro e w2 ⟨v2, rfl, hown2, hb2⟩
   have own1 := own_below hown hb2 (Nat.le_refl _)
   have hsep := own_sep' hown hown2
   have hs2 := hb2.size
   obtain ⟨A2, c2, rfl, _, _, hr2⟩ := own_vals hown2
   obtain ⟨P, hP⟩ : ∃ P, ((xs.take k).flatMap takL).foldl bub [] = P := ⟨_, rfl⟩
   obtain ⟨L2, hL2⟩ : ∃ L2, takL x0 = L2 := ⟨_, rfl⟩
   rw [hP] at own1 hlen Hs
   rw [hL2] at hown2 hlen2 hsep Hs ⊢
   obtain ⟨m, hm⟩ : ∃ m, L2.length = m := ⟨_, rfl⟩
   have Hm := Lib.hid hm
   rw [hm] at hown2 hlen2 hsep ⊢
   have Own1 := Lib.hid own1
   have Own2 := Lib.hid hown2
   have Hsep := Lib.hid hsep
   have b2 := belN hbel hb2
   clear hown hcell hP hL2 hr2 hm own1 hown2 hsep hb2
   rename World => w2'
   go_wp2
   go_loopw [3, 19] (fun v i wr => ∃ (j : Nat), j <= m /\ i = .int .i64 j /\ wr.ownsRow w.heap.size 3 1 v ((L2.take j).foldl bub P).length (II ((L2.take j).foldl bub P)) /\ (∃ b0, wr.ownsRow b0 3 1 (.slice A2 m c2) m (II L2)) /\
     Hid ((Value.slice A2 m c2).ownBlock = none ∨ (Value.slice A2 m c2).ownBlock ≠ v.ownBlock) /\ Below w.heap.size w wr)
    (fun _ i _ => m - (intOf i).toNat)
   case atStart => exact ⟨0, by omega, rfl, Own1.out, ⟨_, Own2.out⟩, Hsep.out, b2⟩
   case round =>
    obtain ⟨j, hj, rfl, hown, ⟨b0, hown2⟩, hsep, hbel2⟩ := hrel
    have hsz2 := hbel2.size
    by_cases hlt2 : j < m
    ·obtain ⟨hjx, ad2, rfl, hadb2, hcell⟩ := reads_at (Reads.own hown2) hlt2
     have Hs2 := Lib.hid (show (L2.take (j + 1)).foldl bub P = bub ((L2.take j).foldl bub P) L2[j] by
      rw [List.take_succ_eq_append_getElem hjx, List.foldl_append]; rfl)
     have hlen3 : ((L2.take j).foldl bub P).length <= 1000009 := by
      rw [bubs_len, List.length_take]; omega
     obtain ⟨x, hx⟩ : ∃ x, L2[j] = x := ⟨_, rfl⟩
     rw [hx] at hcell Hs2
     clear hx
     obtain ⟨Q, hQ⟩ : ∃ Q, (L2.take j).foldl bub P = Q := ⟨_, rfl⟩
     rw [hQ] at hown hlen3 Hs2
     clear hQ
     obtain ⟨q, hq⟩ : ∃ q, Q.length = q := ⟨_, rfl⟩
     have Hq := Lib.hid hq
     rw [hq] at hown hlen3
     clear hq
     have p0 : (0 : Int) <= ↑j := by omega
     have p1 : (j : Int) < ↑m := by omega
     have Own := Lib.hid hown
     have Own2 := Lib.hid hown2
     clear hown hown2
     go_wp2_with (at_builtin; go_must (refine wpList_app _ rfl _ _ _ rfl Tryz.el_int (Own.out.alloc _) rfl (reads_new _ _ _ _ 1 (by rfl)) rfl (by simp [Value.oneCell']) (max_small (by omega)) (by omega) (by simp; omega) ?_); intro v4 w4 own4 hg4 hsame4 hb4; obtain ⟨g, c4, rfl⟩ := own_form1 own4 (by omega))
     have Own24 := Lib.hid ((Own2.out.alloc _).kept hg4 hsep.out)
     have hsep4 := Lib.hid (sep_keep (Own2.out.alloc _) hsep.out hsame4)
     have b4 := (belA hbel2 _).trans hb4
     have hlt4 := hb4.size
     have Own4 := Lib.hid own4
     have hgb := (own_lt own4).1
     clear own4 hg4 hsame4 hcell
     rename World => w5
     go_loopw [8] (fun i wr => ∃ (X B : List Int) (I : Int), i = .int .i64 I /\ Hid (I = (X.length : Int)) /\ Hid (X.length + B.length = q) /\ Hid (bub Q x = (insR x X.reverse).reverse ++ B) /\ wr.ownsRow w.heap.size 3 1 (.slice (some ⟨g, 0, none⟩) (q + 1) c4) (q + 1) (II (X ++ [x] ++ B)) /\ w5.grownBy wr (some g))
      (fun i _ => (intOf i).toNat)
     case atStart => exact ⟨Q, [], _, rfl, by show _ = _; rw [Hq.out], by show _ = _; rw [Hq.out]; rfl, by show _ = _; rw [List.append_nil]; rfl, by rw [List.append_nil, II_append]; exact Own4.out, grown_refl _ _⟩
     case round =>
      obtain ⟨X, B, I, rfl, HI, Hxb, Hbub, own5, hg5⟩ := hrel
      have own24 := Lib.hid (Own24.out.kept (show w5.grownBy wr (Value.slice (some ⟨g, 0, none⟩) (q + 1) c4).ownBlock from hg5) hsep4.out)
      have b5 := belG b4 hg5 hgb
      rcases List.eq_nil_or_concat X with rfl | ⟨X', y, rfl⟩
      ·have hI : I = 0 := HI.out
       have hI0 : decide (0 < I) = false := by simp [hI]
       have Hend := Lib.hid (ins_end Hbub.out)
       have Own5 := Lib.hid own5
       clear own5 hI
       go_wp2_with fail
       go_quiet (fail)
       go_wp2
       go_roundw
       case rel => exact ⟨j + 1, by omega, by go_num, by rw [Hs2.out, bub_len, Hend.out, Hq.out]; exact Own5.out, ⟨_, own24.out⟩, hsep4.out, below_drewN b5 _⟩
       case measure => simp [intOf]; omega
      ·have hxb := Hxb.out
       have hI := HI.out
       simp only [List.concat_eq_append, List.length_append, List.length_singleton] at hxb hI
       rw [List.concat_eq_append] at own5
       have Hbub' := Lib.hid (show bub Q x = (insR x (X' ++ [y]).reverse).reverse ++ B by rw [<- List.concat_eq_append]; exact Hbub.out)
       obtain ⟨p, hp⟩ : ∃ p, X'.length = p := ⟨_, rfl⟩
       rw [hp] at hxb hI
       have z1 : wr.cell? ⟨g, p + 1, none⟩ = some (.int .i64 x) := by rw [own5.cellAt (p + 1) (by omega), <- hp, II_mid2]
       have z2 : wr.cell? ⟨g, p, none⟩ = some (.int .i64 y) := by
        rw [own5.cellAt p (by omega), <- hp, show X' ++ [y] ++ [x] ++ B = X' ++ [y] ++ ([x] ++ B) by simp, II_mid]
       have f1 := own_frozen own5 p
       have f2 := own_frozen own5 (p + 1)
       have Own5 := Lib.hid own5
       have Hp := Lib.hid hp
       have hI0 : 0 <= I := by omega
       have hI1 : I < ((q + 1 : Nat) : Int) := by omega
       have hI2 : 0 < I := by omega
       have hI3 : I <= 1000010 := by omega
       have y1 : (0 : Int) <= ↑p := by omega
       have y2 : (p : Int) < ((q + 1 : Nat) : Int) := by omega
       have HIp := Lib.hid hI
       have Hxb' := Lib.hid hxb
       have hw1 : IntKind.i64.wrap (I - 1) = (p : Int) := by rw [IntWalk.i64_in _ (by omega)]; omega
       have hw2 : I - 1 = (p : Int) := by omega
       have ht1 : I.toNat = p + 1 := by omega
       clear own5 hp hI hxb
       by_cases hc1 : 0 < cls x
       ·by_cases hc2 : cls x < cls y
        ·have Hins := Lib.hid (ins_step Hbub'.out ⟨hc1, hc2⟩)
         go_wp2_with fail
         go_quiet ((go_at_call 210; exact Calls.quiet_of_same (class_quiet _ _)))
         go_wp2_with fail
         go_region
         all_goals
          go_wp2
          go_roundw
          case rel =>
           refine ⟨X', y :: B, _, rfl, ?_, ?_, Hins.out, ?_, ?_⟩
           ·have := HIp.out; have := Hp.out; show _ = _; omega
           ·have := Hxb'.out; have := Hp.out; show _ = _; rw [List.length_cons]; omega
           ·first | exact swap_own Own5.out Hp.out | exact swap_own' Own5.out Hp.out
           ·exact only_sc (only_sc (only_drew (only_drewN hg5 _)) _ _) _ _
          case measure => simp [intOf]; omega
        ·have Hins := Lib.hid (ins_stop Hbub'.out (fun h => hc2 h.2))
         go_wp2_with fail
         go_quiet ((go_at_call 210; exact Calls.quiet_of_same (class_quiet _ _)))
         go_wp2
         go_roundw
         case rel => exact ⟨j + 1, by omega, by go_num, by rw [Hs2.out, bub_len, Hins.out, Hq.out]; exact Own5.out, ⟨_, own24.out⟩, hsep4.out, below_drewN b5 _⟩
         case measure => simp [intOf]; omega
       ·have Hins := Lib.hid (ins_stop Hbub'.out (fun h => hc1 h.1))
        have hd1 : decide (0 < cls x) = false := by simpa using hc1
        go_wp2_with fail
        go_quiet ((go_at_call 210; exact Calls.quiet_of_same (class_quiet _ _)))
        go_wp2
        go_roundw
        case rel => exact ⟨j + 1, by omega, by go_num, by rw [Hs2.out, bub_len, Hins.out, Hq.out]; exact Own5.out, ⟨_, own24.out⟩, hsep4.out, below_drewN b5 _⟩
        case measure => simp [intOf]; omega
    ·obtain rfl : j = m := by omega
     rw [List.take_of_length_le (by have := Hm.out; omega)] at hown
     go_wp2
     go_roundw
     case rel => exact ⟨k + 1, by omega, by go_num, by rw [Hs.out]; exact hown, hbel2⟩
     case measure => simp [intOf]; omega
  ·obtain rfl : k = n := by omega
   rw [List.take_of_length_le (by have := HL.out; omega)] at hown
   go_wp2
   go_ret
   exact ⟨_, rfl, hown, hbel⟩

theorem bub_start (l : List Int) : (l.take 1).foldl bub [] ++ l.drop 1 = l := by
 cases l with
 | nil => rfl
 | cons a l => rfl
theorem bub_next (l : List Int) (k : Nat) (h : k < l.length) : (l.take (k + 1)).foldl bub [] ++ l.drop (k + 1) = bub ((l.take k).foldl bub []) l[k] ++ l.drop (k + 1) := by
 rw [List.take_succ_eq_append_getElem h, List.foldl_append]; rfl

theorem apart_spec (A : Option Addr) (n c : Nat) (xs : List Int) (hl : xs.length = n) (hn : n <= 100000) (w : World) (hr : Reads w w.heap.size 1 A n (II xs)) :
  Calls Tryz.prog 122 #[.slice A n c] w (RowPost w 3 (apartL xs)) := by
 have Hr := Lib.hid hr
 have HL := Lib.hid hl
 have hfl : (xs.flatMap takL).length <= 1000000 := by
  have h1 := flatMap_len (b := 9) xs (fun x _ => takL_len x)
  omega
 clear hr hl
 go_enter Tryz.func122, Tryz.ntmps122
 go_wp2
 go_loopw [3, 4] (fun v i wr => ∃ (k : Nat), k <= n /\ i = .int .i64 k /\ wr.ownsRow w.heap.size 3 1 v ((xs.take k).flatMap takL).length (II ((xs.take k).flatMap takL)) /\ Below w.heap.size w wr)
  (fun _ i _ => n - (intOf i).toNat)
 case atStart => exact ⟨0, by omega, rfl, lit_at w w 3 [] _ _ rfl (Nat.le_refl _) rfl (by simp), belA (bel0 w) _⟩
 case round =>
  obtain ⟨k, hk, rfl, hown, hbel⟩ := hrel
  have hsz := hbel.size
  by_cases hlt : k < n
  ·obtain ⟨hkx, ad, rfl, hadb, hcell⟩ := reads_at (Hr.out.below hbel) hlt
   have Hs := Lib.hid (show (xs.take (k + 1)).flatMap takL = (xs.take k).flatMap takL ++ takL xs[k] by rw [List.take_succ_eq_append_getElem hkx, List.flatMap_append]; simp)
   have hlen : ((xs.take k).flatMap takL).length <= 1000000 := by
    have h1 := flatMap_len (b := 9) (xs.take k) (fun x _ => takL_len x)
    rw [List.length_take] at h1
    omega
   have hlen2 : (takL xs[k]).length <= 9 := takL_len _
   obtain ⟨x, hx⟩ : ∃ x, xs[k] = x := ⟨_, rfl⟩
   rw [hx] at hcell Hs hlen2
   clear hx
   have q0 : (0 : Int) <= ↑k := by omega
   have q1 : (k : Int) < ↑n := by omega
   go_wp2_with fail
   refine (l4Take_any x _).mono ?_
   rintro e w2 ⟨v2, rfl, hown2, hb2⟩
   obtain ⟨A2, c2, rfl, _, _, hr2⟩ := own_vals hown2
   have own1 := own_below hown hb2 (Nat.le_refl _)
   have hs2 := hb2.size
   obtain ⟨L1, hL1⟩ : ∃ L1, (xs.take k).flatMap takL = L1 := ⟨_, rfl⟩
   obtain ⟨L2, hL2⟩ : ∃ L2, takL x = L2 := ⟨_, rfl⟩
   rw [hL1] at own1 hlen Hs
   rw [hL2] at hr2 hlen2 Hs ⊢
   clear hown2 hown hcell hL1 hL2
   go_wp2_with (at_builtin; go_must (refine wpList_app _ rfl _ _ _ rfl Tryz.el_int own1 rfl hr2 rfl (II_cells _) (max_small (by omega)) (by omega) (by omega) ?_); intro v3 w3 own3 hg3 _ hb3)
   go_roundw
   case rel =>
    refine ⟨k + 1, by omega, by go_num, ?_, (belN hbel hb2).trans hb3⟩
    rw [Hs.out, List.length_append, II_append]; exact own3
   case measure => simp [intOf]; omega
  ·obtain rfl : k = n := by omega
   rw [List.take_of_length_le (by have := HL.out; omega)] at hown
   have Hap := Lib.hid (show apartL xs = (xs.flatMap takL).foldl bub [] from rfl)
   obtain ⟨F, hF⟩ : ∃ F, xs.flatMap takL = F := ⟨_, rfl⟩
   rw [hF] at hown hfl Hap
   clear hF
   obtain ⟨f, hf⟩ : ∃ f, F.length = f := ⟨_, rfl⟩
   have Hf := Lib.hid hf
   rw [hf] at hown hfl
   clear hf
   rename World => w5
   rcases Nat.eq_zero_or_pos f with h0 | h0
   ·subst h0
    obtain ⟨A2, c2, rfl, _, _, _⟩ := own_vals hown
    have hF0 : F = [] := List.eq_nil_of_length_eq_zero Hf.out
    subst hF0
    have Hown := Lib.hid hown
    clear hown
    go_wp2
    refine wp_loop_rounds 1 ?_
    rw [rounds_succ]
    go_wp2
    go_ret
    exact ⟨_, rfl, by rw [Hap.out]; exact Hown.out, hbel⟩
   ·obtain ⟨g, c4, rfl⟩ := own_form1 hown h0
    have Hown := Lib.hid hown
    have hgb := (own_lt hown).1
    clear hown
    go_wp2
    go_loopw [5] (fun i wr => ∃ (k : Nat), 1 <= k /\ k <= f /\ i = .int .i64 k /\ wr.ownsRow w.heap.size 3 1 (.slice (some ⟨g, 0, none⟩) f c4) f (II ((F.take k).foldl bub [] ++ F.drop k)) /\ Below w.heap.size w wr)
     (fun i _ => f - (intOf i).toNat)
    case atStart => exact ⟨1, by omega, by omega, rfl, by rw [bub_start]; exact Hown.out, hbel⟩
    case round =>
     obtain ⟨k, hk1, hkf, rfl, hown2, hbel2⟩ := hrel
     by_cases hlt2 : k < f
     ·have hkF : k < F.length := by have := Hf.out; omega
      have Hnx := Lib.hid (bub_next F k hkF)
      have hdr : F.drop k = F[k] :: F.drop (k + 1) := List.drop_eq_getElem_cons hkF
      rw [hdr] at hown2
      obtain ⟨x, hx⟩ : ∃ x, F[k] = x := ⟨_, rfl⟩
      rw [hx] at hown2 Hnx
      obtain ⟨Q, hQ⟩ : ∃ Q, (F.take k).foldl bub [] = Q := ⟨_, rfl⟩
      obtain ⟨R, hR⟩ : ∃ R, F.drop (k + 1) = R := ⟨_, rfl⟩
      have Hq := Lib.hid (show Q.length = k by rw [<- hQ, bubs_len, List.length_take]; simp only [List.length_nil]; omega)
      rw [hQ, hR] at Hnx hown2
      have HR := Lib.hid hR
      rw [show Q ++ x :: R = Q ++ [x] ++ ([] ++ R) by simp] at hown2
      have Own2 := Lib.hid hown2
      clear hown2 hdr hx hQ hR
      have q0 : (0 : Int) <= ↑k := by omega
      have q1 : (k : Int) < ↑f := by omega
      go_wp2
      rename World => w6
      go_loopw [6] (fun i wr => ∃ (X B : List Int) (I : Int), i = .int .i64 I /\ Hid (I = (X.length : Int)) /\ Hid (X.length + B.length = k) /\ Hid (bub Q x = (insR x X.reverse).reverse ++ B) /\ wr.ownsRow w.heap.size 3 1 (.slice (some ⟨g, 0, none⟩) f c4) f (II (X ++ [x] ++ (B ++ R))) /\ Below w.heap.size w wr)
       (fun i _ => (intOf i).toNat)
      case atStart => exact ⟨Q, [], _, rfl, by show _ = _; rw [Hq.out], by show _ = _; rw [Hq.out]; rfl, by show _ = _; rw [List.append_nil]; rfl, Own2.out, hbel2⟩
      case round =>
       obtain ⟨X, B, I, rfl, HI, Hxb, Hbub, own5, b5⟩ := hrel
       rcases List.eq_nil_or_concat X with rfl | ⟨X', y, rfl⟩
       ·have hI : I = 0 := HI.out
        have hI0 : decide (0 < I) = false := by simp [hI]
        have Hend := Lib.hid (ins_end Hbub.out)
        have Own5 := Lib.hid own5
        clear own5 hI
        go_wp2_with fail
        go_quiet (fail)
        go_wp2
        go_roundw
        case rel => exact ⟨k + 1, by omega, by omega, by go_num, by rw [HR.out, Hnx.out, Hend.out, List.append_assoc]; exact Own5.out, below_drewN b5 _⟩
        case measure => simp [intOf]; omega
       ·have hxb := Hxb.out
        have hI := HI.out
        simp only [List.concat_eq_append, List.length_append, List.length_singleton] at hxb hI
        rw [List.concat_eq_append] at own5
        have Hbub' := Lib.hid (show bub Q x = (insR x (X' ++ [y]).reverse).reverse ++ B by rw [<- List.concat_eq_append]; exact Hbub.out)
        obtain ⟨p, hp⟩ : ∃ p, X'.length = p := ⟨_, rfl⟩
        rw [hp] at hxb hI
        have z1 : wr.cell? ⟨g, p + 1, none⟩ = some (.int .i64 x) := by rw [own5.cellAt (p + 1) (by omega), <- hp, II_mid2]
        have z2 : wr.cell? ⟨g, p, none⟩ = some (.int .i64 y) := by
         rw [own5.cellAt p (by omega), <- hp, show X' ++ [y] ++ [x] ++ (B ++ R) = X' ++ [y] ++ ([x] ++ (B ++ R)) by simp, II_mid]
        have Own5 := Lib.hid own5
        have Hp := Lib.hid hp
        have hI0 : 0 <= I := by omega
        have hI1 : I < (f : Int) := by omega
        have hI2 : 0 < I := by omega
        have hI3 : I <= 1000010 := by omega
        have y1 : (0 : Int) <= ↑p := by omega
        have y2 : (p : Int) < (f : Int) := by omega
        have HIp := Lib.hid hI
        have Hxb' := Lib.hid hxb
        have hw1 : IntKind.i64.wrap (I - 1) = (p : Int) := by rw [IntWalk.i64_in _ (by omega)]; omega
        have hw3 : IntKind.i64.wrap (p : Int) = (p : Int) := IntWalk.i64_in _ (by omega)
        have hw2 : I - 1 = (p : Int) := by omega
        have ht1 : I.toNat = p + 1 := by omega
        clear own5 hp hI hxb
        by_cases hc1 : 0 < cls x
        ·by_cases hc2 : cls x < cls y
         ·have Hins := Lib.hid (ins_step Hbub'.out ⟨hc1, hc2⟩)
          go_wp2_with fail
          go_region_held3 (fun w' => w'.cell? ⟨g, p + 1, none⟩ = some (.int .i64 x) /\ w'.cell? ⟨g, p, none⟩ = some (.int .i64 y)) (first | go_keep | (refine ⟨keep1 hb1 ?_, keep1 hb1 ?_⟩ <;> go_keep))
           (first
            | (go_at_call 173; refine (class_spec _ _).mono ?_; rintro e w1 ⟨rfl, hb1⟩; (first | have hB3 := belN hB2 hb1 | have hB2 := belN hB1 hb1 | have hB1 := belN (bel0 wr).drew hb1)))
          have own6 := own_below Own5.out hB3 (Nat.le_refl _)
          have z1' := kp_ hB3 z1
          have z2' := kp_ hB3 z2
          have f1 := own_frozen own6 p
          have f2 := own_frozen own6 (p + 1)
          have Own6 := Lib.hid own6
          have b6 := belN b5 hB3
          clear own6 z1 z2
          go_wp2
          go_roundw
          case rel =>
           refine ⟨X', y :: B, _, rfl, ?_, ?_, Hins.out, ?_, ?_⟩
           ·have := HIp.out; have := Hp.out; show _ = _; omega
           ·have := Hxb'.out; have := Hp.out; show _ = _; rw [List.length_cons]; omega
           ·rw [List.cons_append]; exact swap_own Own6.out Hp.out
           ·exact belC (belC b6 _ _ hgb _) _ _ hgb _
          case measure => simp [intOf]; omega
         ·have Hins := Lib.hid (ins_stop Hbub'.out (fun h => hc2 h.2))
          go_wp2_with fail
          go_region_held3 (fun w' => w'.cell? ⟨g, p + 1, none⟩ = some (.int .i64 x) /\ w'.cell? ⟨g, p, none⟩ = some (.int .i64 y)) (first | go_keep | (refine ⟨keep1 hb1 ?_, keep1 hb1 ?_⟩ <;> go_keep))
           (first
            | (go_at_call 173; refine (class_spec _ _).mono ?_; rintro e w1 ⟨rfl, hb1⟩; (first | have hB3 := belN hB2 hb1 | have hB2 := belN hB1 hb1 | have hB1 := belN (bel0 wr).drew hb1)))
          have own6 := Lib.hid (own_below Own5.out hB3 (Nat.le_refl _))
          have b6 := belN b5 hB3
          clear z1 z2
          go_wp2
          go_roundw
          case rel => exact ⟨k + 1, by omega, by omega, by go_num, by rw [HR.out, Hnx.out, Hins.out, List.append_assoc]; exact own6.out, b6⟩
          case measure => simp [intOf]; omega
        ·have Hins := Lib.hid (ins_stop Hbub'.out (fun h => hc1 h.1))
         have hd1 : decide (0 < cls x) = false := by simpa using hc1
         go_wp2_with fail
         refine wp_region_held_drew (S := fun w' => w'.cell? ⟨g, p + 1, none⟩ = some (.int .i64 x) /\ w'.cell? ⟨g, p, none⟩ = some (.int .i64 y)) (by kernel_rfl) ⟨z1, z2⟩ (fun hHeld => ?_)
         refine tkW_ 0 ?_
         refine tkW_ 1 ?_
         refine tkW_ 2 ?_
         refine tkW_ 3 ?_
         refine tkW_ 4 ?_
         refine tkW_ 5 ?_
         refine tkW_ 6 ?_
         refine rd1_ 7 (fun K hK => ?_)
         go_simp
         go_at_call 173
         refine (class_spec _ _).mono ?_
         rintro e w1 ⟨rfl, hb1⟩
         refine hK.out _ _ ⟨kp_ hb1 z1, kp_ hb1 z2⟩ (fun hHeld2 => ?_)
         clear hK K hHeld
         refine tkW_ 8 ?_
         refine tkW_ 9 ?_
         refine tkW_ 10 ?_
         refine tkX_ 11 ?_
         refine tkX_ 12 ?_
         refine tkX_ 13 ?_
         refine tkX_ 14 ?_
         refine tkX_ 15 ?_
         refine tkX_ 16 ?_
         refine tkX_ 17 ?_
         refine tkX_ 18 ?_
         refine tkX_ 19 ?_
         refine tkX_ 20 ?_
         refine tkX_ 21 ?_
         refine tkX_ 22 ?_
         refine tkW_ 23 ?_
         refine wpAnyH_done (by kernel_rfl) ?_ _
         have hB1 := belN (bel0 wr).drew hb1
         have own6 := Lib.hid (own_below Own5.out hB1 (Nat.le_refl _))
         have b6 := belN b5 hB1
         clear z1 z2
         go_wp2
         go_roundw
         case rel => exact ⟨k + 1, by omega, by omega, by go_num, by rw [HR.out, Hnx.out, Hins.out, List.append_assoc]; exact own6.out, b6⟩
         case measure => simp [intOf]; omega

     ·obtain rfl : k = f := by omega
      rw [List.take_of_length_le (by have := Hf.out; omega), List.drop_eq_nil_of_le (by have := Hf.out; omega), List.append_nil] at hown2
      go_wp2
      go_ret
      exact ⟨_, rfl, by rw [Hap.out, bubs_len, List.length_nil, Nat.zero_add, Hf.out]; exact hown2, hbel2⟩

/-- A text is a right name. -/
def nameOkB (s : ByteArray) : Bool :=
 match decB s with
 | none => false
 | some xs => inI s.size 1 24 && !(s.toList == [46]) && !(s.toList == [46, 46]) && xs.all fun (n : Nat) => kn n
theorem nameOk_none {s : ByteArray} (h : decB s = none) : nameOkB s = false := by unfold nameOkB; rw [h]
theorem nameOk_some {s : ByteArray} {xs : List Nat} (h : decB s = some xs) : nameOkB s = (inI s.size 1 24 && !(s.toList == [46]) && !(s.toList == [46, 46]) && xs.all fun (n : Nat) => kn n) := by unfold nameOkB; rw [h]
theorem all_no {xs : List Nat} {k : Nat} (hk : k < xs.length) (h : kn xs[k] = false) : (xs.all fun (n : Nat) => kn n) = false := by
 rw [List.all_eq_false]; exact ⟨_, List.getElem_mem hk, by simp [h]⟩
theorem all_upto {xs : List Nat} (h : ∀ j (hj : j < xs.length), kn xs[j] = true) : (xs.all fun (n : Nat) => kn n) = true := by
 rw [List.all_eq_true]
 intro x hx
 obtain ⟨j, hj, rfl⟩ := List.getElem_of_mem hx
 exact h j hj
theorem I64_get (l : List Nat) (k : Nat) (h : k < l.length) : (I64 l)[k]? = some (.int .i64 l[k]) := by simp [I64, h]
theorem own_val {w : World} {base : Nat} {e : TypeId} {size n : Nat} {v : Value} {xs : List Value} (h : w.ownsRow base e size v n xs) : ∃ A c, v = .slice A n c /\ n <= c /\ Reads w w.heap.size size A n xs := by
 rcases h.2 with ⟨rfl, rfl⟩ | ⟨g, cap, cur, rfl, _, _, hc, _⟩
 ·exact ⟨none, 0, rfl, Nat.le_refl _, by have := h.1; simp at this; subst this; exact Reads.none_⟩
 ·exact ⟨_, cap, rfl, hc, Reads.of_own h⟩
theorem reads_nat {w : World} {B n : Nat} {A : Option Addr} {xs : List Nat} (h : Reads w B 1 A n (I64 xs)) {k : Nat} (hk : k < n) : ∃ (hk' : k < xs.length) (ad : Addr), A = some ad /\ ad.block < B /\ w.cell? (ad.add k) = some (.int .i64 xs[k]) := by
 obtain ⟨ad, u, h1, h2, h3, h4⟩ := h.at_ hk
 have hl : k < xs.length := by have := h.1; simp [I64] at this; omega
 rw [I64_get _ _ hl] at h3
 injection h3 with h3
 exact ⟨hl, ad, h1, h2, by rw [h4, h3]⟩

theorem nameOk_impl (s : ByteArray) (hs : s.size <= 2000000) (w : World) (hT : Tab w) :
  Calls Tryz.prog 69 #[.string s] w fun e w' => e = .returned (.bool (nameOkB s)) /\ Below w.heap.size w w' := by
 have HT := Lib.hid hT
 clear hT
 go_enter Tryz.func69, Tryz.ntmps69
 go_wp2_with fail
 refine (decode_impl s hs _).mono ?_
 rintro e w1 ⟨hb1, ⟨xs, v, ho, rfl, hown⟩ | ⟨v, ho, rfl, hown⟩⟩
 ·have Hf := Lib.hid (nameOk_some ho)
  have hlen := (decB_bd ho).1
  obtain ⟨A, c, rfl, _, hr⟩ := own_val hown
  have Hr := Lib.hid hr
  clear ho hown hr
  rcases hin : inI s.size 1 24 with _ | _
  ·go_wp2_with (go_at_call 67; refine (within_any _ _ _ _).mono ?_; rintro e w' ⟨rfl, rfl⟩)
   go_ret
   exact ⟨ret_bool (by rw [Hf.out, hin]; rfl), hb1⟩
  rcases hd1 : s.toList == [46] with _ | _
  rotate_left
  ·go_wp2_with (go_at_call 67; refine (within_any _ _ _ _).mono ?_; rintro e w' ⟨rfl, rfl⟩)
   go_ret
   exact ⟨ret_bool (by rw [Hf.out, hd1]; simp), hb1⟩
  rcases hd2 : s.toList == [46, 46] with _ | _
  rotate_left
  ·go_wp2_with (go_at_call 67; refine (within_any _ _ _ _).mono ?_; rintro e w' ⟨rfl, rfl⟩)
   go_ret
   exact ⟨ret_bool (by rw [Hf.out, hd2]; simp), hb1⟩
  have Hf2 := Lib.hid (show nameOkB s = xs.all fun (n : Nat) => kn n by rw [Hf.out, hin, hd1, hd2]; rfl)
  go_wp2_with (go_at_call 67; refine (within_any _ _ _ _).mono ?_; rintro e w' ⟨rfl, rfl⟩)
  go_loopw [30] (fun i wr => ∃ (k : Nat), k <= xs.length /\ i = .int .i64 k /\ Hid (∀ j (hj : j < xs.length), j < k -> kn xs[j] = true) /\ Below w1.heap.size w1 wr)
   (fun i _ => xs.length - (intOf i).toNat)
  case atStart => exact ⟨0, by omega, rfl, fun j _ hj => by omega, bel0 w1⟩
  case round =>
   obtain ⟨k, hk, rfl, hno, hbel⟩ := hrel
   by_cases hlt : k < xs.length
   ·obtain ⟨hkx, ad, rfl, hadb, hcell⟩ := reads_nat (Hr.out.below hbel) hlt
    rcases hkn : kn xs[k] with _ | _
    ·have Hno := Lib.hid (all_no hkx hkn)
     go_wp2_with (go_at_call 107; refine (known_impl _ _ ((HT.out.bl hb1).bl hbel)).mono ?_; rintro e w2 ⟨rfl, hb2⟩)
     go_ret
     exact ⟨ret_bool (by rw [Hf2.out, Hno.out]), belN (belN hb1 hbel) hb2⟩
    ·go_wp2_with (go_at_call 107; refine (known_impl _ _ ((HT.out.bl hb1).bl hbel)).mono ?_; rintro e w2 ⟨rfl, hb2⟩)
     go_roundw
     case rel => exact ⟨k + 1, by omega, by go_num, fun j hj hjk => by
      rcases Nat.lt_or_ge j k with h1 | h1
      ·exact hno.out j hj h1
      ·obtain rfl : j = k := by omega
       exact hkn, belN hbel hb2⟩
     case measure => simp [intOf]; omega
   ·have Hall := Lib.hid (all_upto (fun j hj => hno.out j hj (by omega)))
    go_wp2
    go_ret
    exact ⟨ret_bool (by rw [Hf2.out, Hall.out]), belN hb1 hbel⟩
 ·have Hf := Lib.hid (nameOk_none ho)
  clear ho hown
  go_wp2
  go_ret
  exact ⟨ret_bool Hf.out.symm, hb1⟩

theorem nameOk_spec (s : ByteArray) (hs : s.size <= 2000000) (w : World) :
  Calls Tryz.prog 70 #[.string s] w fun e w' => e = .returned (.bool (nameOkB s)) /\ Below w.heap.size w w' := by
 rcases hin : inI s.size 1 24 with _ | _
 ·have Hf := Lib.hid (show nameOkB s = false by unfold nameOkB; rw [hin]; cases decB s <;> rfl)
  go_enter Tryz.func70, Tryz.ntmps70
  go_wp2_with (go_at_call 56; refine (l1In_any _ _ _ _).mono ?_; rintro e w' ⟨rfl, rfl⟩)
  go_ret
  exact ⟨ret_bool Hf.out.symm, bel0 w⟩
 rcases hd1 : s.toList == [46] with _ | _
 rotate_left
 ·have Hf := Lib.hid (show nameOkB s = false by unfold nameOkB; rw [hd1]; cases decB s <;> simp)
  go_enter Tryz.func70, Tryz.ntmps70
  go_wp2_with (go_at_call 56; refine (l1In_any _ _ _ _).mono ?_; rintro e w' ⟨rfl, rfl⟩)
  go_ret
  exact ⟨ret_bool Hf.out.symm, bel0 w⟩
 rcases hd2 : s.toList == [46, 46] with _ | _
 rotate_left
 ·have Hf := Lib.hid (show nameOkB s = false by unfold nameOkB; rw [hd2]; cases decB s <;> simp)
  go_enter Tryz.func70, Tryz.ntmps70
  go_wp2_with (go_at_call 56; refine (l1In_any _ _ _ _).mono ?_; rintro e w' ⟨rfl, rfl⟩)
  go_ret
  exact ⟨ret_bool Hf.out.symm, bel0 w⟩
 go_enter Tryz.func70, Tryz.ntmps70
 go_wp2_with (go_at_call 56; refine (l1In_any _ _ _ _).mono ?_; rintro e w' ⟨rfl, rfl⟩)
 refine (decode_spec s hs _).mono ?_
 rintro e w1 ⟨hb1, ⟨xs, v, ho, rfl, hown⟩ | ⟨v, ho, rfl, hown⟩⟩
 ·have Hf2 := Lib.hid (show nameOkB s = xs.all fun (n : Nat) => kn n by rw [nameOk_some ho, hin, hd1, hd2]; rfl)
  have hlen := (decB_bd ho).1
  obtain ⟨A, c, rfl, _, hr⟩ := own_val hown
  have Hr := Lib.hid hr
  clear ho hown hr
  go_wp2
  go_loopw [4, 5] (fun b i wr => ∃ (k : Nat) (y : Bool), k <= xs.length /\ i = .int .i64 k /\ b = .bool y /\ Hid (y = (xs.take k).all fun (n : Nat) => kn n) /\ Below w1.heap.size w1 wr)
   (fun _ i _ => xs.length - (intOf i).toNat)
  case atStart => exact ⟨0, true, by omega, rfl, rfl, rfl, bel0 w1⟩
  case round =>
   obtain ⟨k, y, hk, rfl, rfl, hy, hbel⟩ := hrel
   by_cases hlt : k < xs.length
   ·obtain ⟨hkx, ad, rfl, hadb, hcell⟩ := reads_nat (Hr.out.below hbel) hlt
    have Hs := Lib.hid (show ((xs.take (k + 1)).all fun (n : Nat) => kn n) = (y && kn xs[k]) by rw [List.take_succ_eq_append_getElem hkx, List.all_append, <- hy.out]; simp)
    cases y
    ·go_wp2
     go_roundw
     case rel => exact ⟨k + 1, _, by omega, by go_num, rfl, by show _ = _; rw [Hs.out]; rfl, hbel⟩
     case measure => simp [intOf]; omega
    ·go_wp2_with (go_at_call 109; refine (known_spec _ _).mono ?_; rintro e w2 ⟨rfl, hb2⟩)
     go_roundw
     case rel => exact ⟨k + 1, _, by omega, by go_num, rfl, by show _ = _; rw [Hs.out]; rfl, belN hbel hb2⟩
     case measure => simp [intOf]; omega
   ·have Hall := Lib.hid (show y = xs.all fun (n : Nat) => kn n by rw [hy.out, List.take_of_length_le (by omega)])
    go_wp2
    go_ret
    exact ⟨ret_bool (by rw [Hf2.out, Hall.out]), belN hb1 hbel⟩
 ·have Hf := Lib.hid (nameOk_none ho)
  obtain ⟨A, c, rfl, _, hr⟩ := own_val hown
  clear ho hown hr
  go_wp2
  refine wp_loop_rounds 1 ?_
  rw [rounds_succ]
  go_wp2
  go_ret
  exact ⟨ret_bool Hf.out.symm, hb1⟩

/-- What all spellings of a text have. -/
noncomputable def keyB (s : ByteArray) : ByteArray := match decB s with | some xs => keyL (xs.map fun (n : Nat) => (n : Int)) | none => ⟨#[]⟩
noncomputable def keyP (s : ByteArray) : ByteArray × Bool := if nameOkB s = true then (keyB s, true) else (⟨#[]⟩, false)
theorem keyP_no {s : ByteArray} (h : nameOkB s = false) : keyP s = (⟨#[]⟩, false) := by unfold keyP; rw [if_neg (by rw [h]; simp)]
theorem keyP_ok {s : ByteArray} (h : nameOkB s = true) : keyP s = (keyB s, true) := by unfold keyP; rw [if_pos h]
theorem keyP_2 (s : ByteArray) : (keyP s).2 = nameOkB s := by
 cases h : nameOkB s
 ·rw [keyP_no h]
 ·rw [keyP_ok h]
theorem keyP_yes {s : ByteArray} {xs : List Nat} (h : nameOkB s = true) (hd : decB s = some xs) : keyP s = (encB (apartL (foldL (apartL (xs.map fun (n : Nat) => (n : Int))))), true) := by
 rw [keyP_ok h]; unfold keyB; rw [hd]; rfl
theorem nameOk_dec {s : ByteArray} (h : nameOkB s = true) : ∃ xs, decB s = some xs /\ s.size <= 24 /\ xs.length <= 24 := by
 cases hd : decB s with
 | none => rw [nameOk_none hd] at h; cases h
 | some xs =>
  rw [nameOk_some hd] at h
  simp only [Bool.and_eq_true] at h
  have h1 := inI_true.1 h.1.1.1
  have h2 := (decB_bd hd).1
  exact ⟨xs, rfl, by omega, by omega⟩
theorem keyB_size {s : ByteArray} (h : nameOkB s = true) : (keyB s).size <= 20000 := by
 obtain ⟨xs, hd, _, hl⟩ := nameOk_dec h
 unfold keyB; rw [hd]
 have := keyL_size (xs.map fun (n : Nat) => (n : Int))
 rw [List.length_map] at this
 simp only; omega
theorem keyP_size (s : ByteArray) : (keyP s).1.size <= 20000 := by
 cases h : nameOkB s
 ·rw [keyP_no h]; simp only; rw [str0_size]; omega
 ·rw [keyP_ok h]; exact keyB_size h
theorem dec_some {T : TypeId} {w w' : World} {o : Option (List Nat)} {xs : List Nat} {e : Ending} (h : (∃ xs v, o = some xs /\ e = .returned (.tuple #[v, .bool true]) /\ w'.ownsRow w.heap.size T 1 v xs.length (I64 xs)) ∨ (∃ v, o = none /\ e = .returned (.tuple #[v, .bool false]) /\ w'.ownsRow w.heap.size T 1 v 0 []))
  (ho : o = some xs) : ∃ v, e = .returned (.tuple #[v, .bool true]) /\ w'.ownsRow w.heap.size T 1 v xs.length (I64 xs) := by
 rcases h with ⟨ys, v, h1, h2, h3⟩ | ⟨v, h1, _⟩
 ·rw [ho] at h1; injection h1 with h1; subst h1; exact ⟨v, h2, h3⟩
 ·rw [ho] at h1; cases h1

theorem keyOf_impl (s : ByteArray) (hs : s.size <= 2000000) (w : World) (hT : Tab w) :
  Calls Tryz.prog 161 #[.string s] w fun e w' => e = .returned (.tuple #[.string (keyP s).1, .bool (keyP s).2]) /\ Below w.heap.size w w' := by
 have HT := Lib.hid hT
 rcases hn : nameOkB s with _ | _
 ·have Hk := Lib.hid (keyP_no hn)
  have Hn := Lib.hid hn
  clear hn hT
  go_enter Tryz.func161, Tryz.ntmps161
  go_wp2_with fail
  refine (nameOk_impl s hs _ HT.out).mono ?_
  rintro e w1 ⟨rfl, hb1⟩
  rw [Hn.out]
  go_wp2
  go_ret2
  exact ⟨by rw [Hk.out]; rfl, hb1⟩
 ·obtain ⟨xs, hdec, hsz, hlen⟩ := nameOk_dec hn
  have Hk := Lib.hid (keyP_yes hn hdec)
  have Hn := Lib.hid hn
  have Hd := Lib.hid hdec
  clear hn hdec hT
  go_enter Tryz.func161, Tryz.ntmps161
  go_wp2_with fail
  refine (nameOk_impl s hs _ HT.out).mono ?_
  rintro e w1 ⟨rfl, hb1⟩
  rw [Hn.out]
  go_wp2_with fail
  refine (decode_impl s hs _).mono ?_
  rintro e w2 ⟨hb2, hpost⟩
  obtain ⟨v, rfl, hown⟩ := dec_some hpost Hd.out
  have b2 := belN hb1 hb2
  obtain ⟨A, c, rfl, _, _, hr⟩ := own_vals hown
  rw [II_of] at hr
  have hl : (xs.map fun (n : Nat) => (n : Int)).length = xs.length := List.length_map _
  obtain ⟨ys, hys⟩ : ∃ ys : List Int, (xs.map fun (n : Nat) => (n : Int)) = ys := ⟨_, rfl⟩
  rw [hys] at hr hl Hk
  obtain ⟨n, hn⟩ : ∃ n, xs.length = n := ⟨_, rfl⟩
  rw [hn] at hr hl hlen ⊢
  clear hown hys hn
  have Hr := Lib.hid hr
  have Hl := Lib.hid hl
  clear hr hl hpost
  have l1 := apartL_len ys
  have l2 := foldL_len (apartL ys)
  have l3 := apartL_len (foldL (apartL ys))
  rw [Hl.out] at l1
  go_wp2_with fail
  refine (apart_impl A n c ys Hl.out (by omega) _ Hr.out).mono ?_
  rintro e w3 ⟨v3, rfl, hown3, hb3⟩
  have b3 := belN b2 hb3
  obtain ⟨A3, c3, rfl, _, _, hr3⟩ := own_vals hown3
  clear hown3
  go_wp2_with fail
  refine (fold_impl A3 _ c3 _ rfl (by omega) _ hr3).mono ?_
  rintro e w4 ⟨v4, rfl, hown4, hb4⟩
  have b4 := belN b3 hb4
  obtain ⟨A4, c4, rfl, _, _, hr4⟩ := own_vals hown4
  clear hown4 hr3
  go_wp2_with fail
  refine (apart_impl A4 _ c4 _ rfl (by omega) _ hr4).mono ?_
  rintro e w5 ⟨v5, rfl, hown5, hb5⟩
  have b5 := belN b4 hb5
  obtain ⟨A5, c5, rfl, _, _, hr5⟩ := own_vals hown5
  clear hown5 hr4
  go_wp2_with fail
  refine (encode_impl A5 _ c5 _ rfl (by omega) _ hr5).mono ?_
  rintro e w6 ⟨rfl, hb6⟩
  go_wp2
  go_ret2
  exact ⟨by rw [Hk.out]; rfl, belN b5 hb6⟩

theorem keyOf_spec (s : ByteArray) (hs : s.size <= 2000000) (w : World) :
  Calls Tryz.prog 83 #[.string s] w fun e w' => e = .returned (.tuple #[.string (keyP s).1, .bool (keyP s).2]) /\ Below w.heap.size w w' := by
 rcases hn : nameOkB s with _ | _
 ·have Hk := Lib.hid (keyP_no hn)
  have Hn := Lib.hid hn
  clear hn
  go_enter Tryz.func83, Tryz.ntmps83
  go_wp2_with fail
  refine (nameOk_spec s hs _).mono ?_
  rintro e w1 ⟨rfl, hb1⟩
  rw [Hn.out]
  go_wp2
  go_ret2
  exact ⟨by rw [Hk.out]; rfl, hb1⟩
 ·obtain ⟨xs, hdec, hsz, hlen⟩ := nameOk_dec hn
  have Hk := Lib.hid (keyP_yes hn hdec)
  have Hn := Lib.hid hn
  have Hd := Lib.hid hdec
  clear hn hdec
  go_enter Tryz.func83, Tryz.ntmps83
  go_wp2_with fail
  refine (nameOk_spec s hs _).mono ?_
  rintro e w1 ⟨rfl, hb1⟩
  rw [Hn.out]
  go_wp2_with fail
  refine (decode_spec s hs _).mono ?_
  rintro e w2 ⟨hb2, hpost⟩
  obtain ⟨v, rfl, hown⟩ := dec_some hpost Hd.out
  have b2 := belN hb1 hb2
  obtain ⟨A, c, rfl, _, _, hr⟩ := own_vals hown
  rw [II_of] at hr
  have hl : (xs.map fun (n : Nat) => (n : Int)).length = xs.length := List.length_map _
  obtain ⟨ys, hys⟩ : ∃ ys : List Int, (xs.map fun (n : Nat) => (n : Int)) = ys := ⟨_, rfl⟩
  rw [hys] at hr hl Hk
  obtain ⟨n, hn⟩ : ∃ n, xs.length = n := ⟨_, rfl⟩
  rw [hn] at hr hl hlen ⊢
  clear hown hys hn
  have Hr := Lib.hid hr
  have Hl := Lib.hid hl
  clear hr hl hpost
  have l1 := apartL_len ys
  have l2 := foldL_len (apartL ys)
  have l3 := apartL_len (foldL (apartL ys))
  rw [Hl.out] at l1
  go_wp2_with fail
  refine (apart_spec A n c ys Hl.out (by omega) _ Hr.out).mono ?_
  rintro e w3 ⟨v3, rfl, hown3, hb3⟩
  have b3 := belN b2 hb3
  obtain ⟨A3, c3, rfl, _, _, hr3⟩ := own_vals hown3
  clear hown3
  go_wp2_with fail
  refine (fold_spec A3 _ c3 _ rfl (by omega) _ hr3).mono ?_
  rintro e w4 ⟨v4, rfl, hown4, hb4⟩
  have b4 := belN b3 hb4
  obtain ⟨A4, c4, rfl, _, _, hr4⟩ := own_vals hown4
  clear hown4 hr3
  go_wp2_with fail
  refine (apart_spec A4 _ c4 _ rfl (by omega) _ hr4).mono ?_
  rintro e w5 ⟨v5, rfl, hown5, hb5⟩
  have b5 := belN b4 hb5
  obtain ⟨A5, c5, rfl, _, _, hr5⟩ := own_vals hown5
  clear hown5 hr4
  go_wp2_with fail
  refine (encode_spec A5 _ c5 _ rfl (by omega) _ hr5).mono ?_
  rintro e w6 ⟨rfl, hb6⟩
  go_wp2
  go_ret2
  exact ⟨by rw [Hk.out]; rfl, belN b5 hb6⟩

/-- Where a name's entries stand. -/
noncomputable def hashI (s : ByteArray) : Int := if nameOkB s = true then crcB (keyB s) % 16 else -1
theorem hashI_no {s : ByteArray} (h : nameOkB s = false) : hashI s = -1 := by unfold hashI; rw [if_neg (by rw [h]; simp)]
theorem hashI_ok {s : ByteArray} (h : nameOkB s = true) : hashI s = crcB (keyB s) % 16 := by unfold hashI; rw [if_pos h]

theorem hashOf_impl (s : ByteArray) (hs : s.size <= 2000000) (w : World) (hT : Tab w) :
  Calls Tryz.prog 244 #[.string s] w fun e w' => e = .returned (.int .i64 (hashI s)) /\ Below w.heap.size w w' := by
 have HT := Lib.hid hT
 clear hT
 rcases hn : nameOkB s with _ | _
 ·have Hk := Lib.hid (keyP_no hn)
  have Hh := Lib.hid (hashI_no hn)
  clear hn
  go_enter Tryz.func244, Tryz.ntmps244
  go_wp2_with fail
  refine (keyOf_impl s hs _ HT.out).mono ?_
  rintro e w1 ⟨rfl, hb1⟩
  rw [Hk.out]
  simp only
  go_wp2
  go_ret
  exact ⟨by rw [Hh.out]; rfl, hb1⟩
 ·have Hk := Lib.hid (keyP_ok hn)
  have Hh := Lib.hid (hashI_ok hn)
  have hz := keyB_size hn
  have hc := crcB_bd (keyB s)
  clear hn
  obtain ⟨k, hk⟩ : ∃ k, keyB s = k := ⟨_, rfl⟩
  rw [hk] at Hk Hh hz hc
  clear hk
  obtain ⟨hc0, hc1⟩ := hc
  go_enter Tryz.func244, Tryz.ntmps244
  go_wp2_with fail
  refine (keyOf_impl s hs _ HT.out).mono ?_
  rintro e w1 ⟨rfl, hb1⟩
  rw [Hk.out]
  simp only
  go_wp2_with (go_at_call 175; refine (crc_impl k (by omega) _).mono ?_; rintro e w' ⟨rfl, rfl⟩)
  go_ret
  exact ⟨ret_int Hh.out.symm, hb1⟩

theorem hashOf_spec (s : ByteArray) (hs : s.size <= 2000000) (w : World) :
  Calls Tryz.prog 141 #[.string s] w fun e w' => e = .returned (.int .i64 (hashI s)) /\ Below w.heap.size w w' := by
 rcases hn : nameOkB s with _ | _
 ·have Hk := Lib.hid (keyP_no hn)
  have Hh := Lib.hid (hashI_no hn)
  clear hn
  go_enter Tryz.func141, Tryz.ntmps141
  go_wp2_with fail
  refine (keyOf_spec s hs _).mono ?_
  rintro e w1 ⟨rfl, hb1⟩
  rw [Hk.out]
  simp only
  go_wp2
  go_ret
  exact ⟨by rw [Hh.out]; rfl, hb1⟩
 ·have Hk := Lib.hid (keyP_ok hn)
  have Hh := Lib.hid (hashI_ok hn)
  have hz := keyB_size hn
  have hc := crcB_bd (keyB s)
  clear hn
  obtain ⟨k, hk⟩ : ∃ k, keyB s = k := ⟨_, rfl⟩
  rw [hk] at Hk Hh hz hc
  clear hk
  obtain ⟨hc0, hc1⟩ := hc
  go_enter Tryz.func141, Tryz.ntmps141
  go_wp2_with fail
  refine (keyOf_spec s hs _).mono ?_
  rintro e w1 ⟨rfl, hb1⟩
  rw [Hk.out]
  simp only
  go_wp2_with (go_at_call 187; refine (crc_spec k (by omega) _).mono ?_; rintro e w' ⟨rfl, rfl⟩)
  go_ret
  exact ⟨ret_int Hh.out.symm, hb1⟩

/-- Two names are one. -/
noncomputable def alikeB (a b : ByteArray) : Bool := nameOkB a && nameOkB b && @decide (keyB a = keyB b) (Classical.propDecidable _)

end Go.Proofs.YtjjniapamdleoaaGreatDoor
