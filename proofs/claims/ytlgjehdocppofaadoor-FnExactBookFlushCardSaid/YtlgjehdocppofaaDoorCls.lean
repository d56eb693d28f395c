/- Classes and folds of signs, signs of a text, in both packages. -/
import Derived.Test.YtlgjehdocppofaaDoorParts
import Derived.Test.YtlgjehdocppofaaDoorKnown
namespace Go.Proofs.YtlgjehdocppofaaDoor
open Go Go.RowKit

set_option maxHeartbeats 1000000 in
theorem l3Among_any (q : Int) (A : Option Addr) (n c : Nat) (xs : List Int) (hn : n ≤ 10000000) (w : World) (hr : Reads w w.heap.size 1 A n (II xs)) :
    Calls Tryd.prog 207 #[.int .i64 q, .slice A n c] w fun e w' => e = .returned (.bool (xs.any (· == q))) ∧ Below w.heap.size w w' := by
  have hl : xs.length = n := by have := hr.1; rw [II_length] at this; omega
  have Hr := Lib.hid hr
  clear hr
  go_enter Tryd.func207, Tryd.ntmps207
  go_wp2
  go_loopw [5] (fun i wr => ∃ (j : Nat), j ≤ n ∧ i = .int .i64 j ∧ Hid ((xs.take j).any (· == q) = false) ∧ Below w.heap.size w wr)
    (fun i _ => n - (intOf i).toNat)
  case atStart => exact ⟨0, by omega, rfl, rfl, bel0 w⟩
  case round =>
    obtain ⟨j, hj, rfl, hno, hbel⟩ := hrel
    by_cases hlt : j < n
    · obtain ⟨hkx, ad, rfl, hadb, z0⟩ := reads_at (Hr.out.below hbel) hlt
      have q0 : (0 : Int) ≤ ↑j := by omega
      have q1 : (↑j : Int) < ↑n := by omega
      have Hs := Lib.hid (List.take_succ_eq_append_getElem hkx)
      have Hd := Lib.hid (show xs = xs.take j ++ xs[j] :: xs.drop (j + 1) by rw [← List.drop_eq_getElem_cons hkx, List.take_append_drop])
      obtain ⟨x, hx⟩ : ∃ x, xs[j] = x := ⟨_, rfl⟩
      rw [hx] at z0 Hs Hd
      clear hx
      rcases he : (x == q) with _ | _
      · have Hn := Lib.hid (show (xs.take (j + 1)).any (· == q) = false by rw [Hs.out, List.any_append, hno.out]; simp [he])
        go_wp2
        go_roundw
        case rel => exact ⟨j + 1, by omega, by go_num, Hn.out, hbel⟩
        case measure => simp [intOf]; omega
      · have Hn := Lib.hid (show xs.any (· == q) = true by rw [Hd.out, List.any_append]; simp [he])
        go_wp2
        go_ret
        exact ⟨ret_bool Hn.out.symm, hbel⟩
    · have Hn := Lib.hid (show xs.any (· == q) = false by have := hno.out; rwa [List.take_of_length_le (by omega)] at this)
      go_wp2
      go_ret
      exact ⟨ret_bool Hn.out.symm, hbel⟩

set_option maxHeartbeats 2000000 in
theorem class_impl (c : Int) (w : World) :
    Calls Tryd.prog 196 #[.int .i64 c] w fun e w' => e = .returned (.int .i64 (cls c)) ∧ w = w' := by
  rcases h0 : inI c 768 772 with _ | _ <;> rcases h1 : (c == 776) with _ | _ <;> rcases h2 : (c == 778) with _ | _ <;> rcases h3 : (c == 803) with _ | _ <;> rcases h4 : (c == 807) with _ | _
  all_goals
    have Hs := Lib.hid (show cls c = _ by unfold cls; rw [h0, h1, h2, h3, h4])
    go_enter Tryd.func196, Tryd.ntmps196
    go_wp2_with (go_at_call 88; refine (within_any _ _ _ _).mono ?_; rintro e w' ⟨rfl, rfl⟩)
    go_ret
    exact ⟨ret_int (by rw [Hs.out]; rfl), rfl⟩

theorem among_marks (c : Int) : ([768, 769, 770, 771, 772, 776, 778] : List Int).any (· == c) = (inI c 768 772 || (c == 776 || c == 778)) := by
  rw [Bool.eq_iff_iff]
  simp [inI]; omega

set_option maxHeartbeats 2000000 in
theorem class_spec (c : Int) (w : World) :
    Calls Tryd.prog 202 #[.int .i64 c] w fun e w' => e = .returned (.int .i64 (cls c)) ∧ Below w.heap.size w w' := by
  have Hm := Lib.hid (among_marks c)
  rcases h0 : (inI c 768 772 || (c == 776 || c == 778)) with _ | _ <;> rcases h3 : (c == 803) with _ | _ <;> rcases h4 : (c == 807) with _ | _
  all_goals
    have Hs := Lib.hid (show cls c = _ by unfold cls; rw [h0, h3, h4])
    have Hm' := Lib.hid (Hm.out.trans h0)
    clear h0
    go_enter Tryd.func202, Tryd.ntmps202
    go_wp2_with fail
    refine (l3Among_any c _ 7 7 [768, 769, 770, 771, 772, 776, 778] (by omega) _ ((reads_new _ _ _ 1 7 (by rfl)).more (by simp))).mono ?_
    rintro e w1 ⟨rfl, hb1⟩
    rw [Hm'.out]
    go_wp2
    go_ret
    exact ⟨ret_int (by rw [Hs.out]; rfl), belN (belA (bel0 w) _) hb1⟩

/-- A function that hands back a new row of numbers. -/
def RowPost (w : World) (T : TypeId) (xs : List Int) (e : Ending) (w' : World) : Prop := ∃ v, e = .returned v ∧ w'.ownsRow w.heap.size T 1 v xs.length (II xs) ∧ Below w.heap.size w w'
theorem row_lit (w : World) (T : TypeId) (xs : List Int) (cs : Array Value) (n : Nat) (hc : cs.toList = II xs) (hn : n = xs.length) (h63 : n ≤ 1000) :
    RowPost w T xs (.returned (.slice (some ⟨w.heap.size, 0, none⟩) n n)) (w.alloc (.cells cs T)) := by
  subst hn
  refine ⟨_, rfl, ?_, belA (bel0 w) _⟩
  rw [← hc]
  exact World.ownsRow_lit w cs xs.length (Nat.le_refl _) (by unfold maxLen; omega) (by rw [← Array.length_toList, hc, II_length]; omega)
theorem row_lit2 {w w1 : World} (hb : Below w.heap.size w w1) {T : TypeId} (xs : List Int) (cs : Array Value) (n : Nat) (hc : cs.toList = II xs) (hn : n = xs.length) (h63 : n ≤ 1000) :
    RowPost w T xs (.returned (.slice (some ⟨w1.heap.size, 0, none⟩) n n)) (w1.alloc (.cells cs T)) := by
  obtain ⟨v, hv, hown, hb2⟩ := row_lit w1 T xs cs n hc hn h63
  exact ⟨v, hv, own_more hown hb.size, belN hb hb2⟩

set_option maxHeartbeats 4000000 in
theorem foldOf_impl (c : Int) (w : World) :
    Calls Tryd.prog 197 #[.int .i64 c] w (RowPost w 3 (foldOfL c)) := by
  rcases ha : foldA c with _ | _
  · have ha' := ha
    unfold foldA at ha'
    rw [Bool.or_eq_false_iff, Bool.or_eq_false_iff, Bool.or_eq_false_iff] at ha'
    obtain ⟨a1, a2, a3, a4⟩ := ha'
    rcases hb : foldB c with _ | _
    · have hb' := hb
      unfold foldB at hb'
      simp only [List.any_cons, List.any_nil, Bool.or_false, Bool.or_eq_false_iff] at hb'
      obtain ⟨b1, b2, b3, b4⟩ := hb'
      rw [beq_eq_false_iff_ne] at b1 b2 b3 b4
      have b1' : (c == 198) = false := by rw [beq_eq_false_iff_ne]; exact Ne.symm b1
      have b2' : (c == 208) = false := by rw [beq_eq_false_iff_ne]; exact Ne.symm b2
      have b3' : (c == 216) = false := by rw [beq_eq_false_iff_ne]; exact Ne.symm b3
      have b4' : (c == 222) = false := by rw [beq_eq_false_iff_ne]; exact Ne.symm b4
      clear b1 b2 b3 b4
      rcases h3 : (c == 223) with _ | _ <;> rcases h4 : (c == 962) with _ | _
      all_goals
        have Hs := Lib.hid (show foldOfL c = _ by unfold foldOfL; rw [ha, hb, h3, h4])
        clear ha hb
        go_enter Tryd.func197, Tryd.ntmps197
        go_wp2_with (go_at_call 88; refine (within_any _ _ _ _).mono ?_; rintro e w' ⟨rfl, rfl⟩)
        go_ret
        rw [Hs.out]
        exact row_lit w _ _ _ _ rfl rfl (by simp)
    · have Hs := Lib.hid (show foldOfL c = [c + 32] by unfold foldOfL; rw [ha, hb]; rfl)
      have hb' : c = 198 ∨ c = 208 ∨ c = 216 ∨ c = 222 := by
        unfold foldB at hb
        simp only [List.any_cons, List.any_nil, Bool.or_false, Bool.or_eq_true, beq_iff_eq] at hb
        omega
      clear ha hb
      rcases hb' with rfl | rfl | rfl | rfl
      all_goals
        go_enter Tryd.func197, Tryd.ntmps197
        go_wp2_with (go_at_call 88; refine (within_any _ _ _ _).mono ?_; rintro e w' ⟨rfl, rfl⟩)
        go_ret
        rw [Hs.out]
        exact row_lit w _ _ _ _ rfl rfl (by simp)
  · have Hs := Lib.hid (show foldOfL c = [c + 32] by unfold foldOfL; rw [ha]; rfl)
    have ha' := ha
    unfold foldA at ha'
    have hbd : 0 ≤ c ∧ c ≤ 2000 := by
      simp only [Bool.or_eq_true, inI_true] at ha'
      omega
    obtain ⟨hb0, hb1⟩ := hbd
    clear ha'
    rcases a1 : inI c 65 90 with _ | _ <;> rcases a2 : inI c 913 929 with _ | _ <;> rcases a3 : inI c 931 937 with _ | _ <;> rcases a4 : inI c 1040 1071 with _ | _
    all_goals try (exfalso; unfold foldA at ha; rw [a1, a2, a3, a4] at ha; exact absurd ha (by decide))
    all_goals
      clear ha
      go_enter Tryd.func197, Tryd.ntmps197
      go_wp2_with (go_at_call 88; refine (within_any _ _ _ _).mono ?_; rintro e w' ⟨rfl, rfl⟩)
      go_ret
      rw [Hs.out]
      exact row_lit w _ _ _ _ rfl rfl (by simp)

set_option maxHeartbeats 4000000 in
theorem foldOf_spec (c : Int) (w : World) :
    Calls Tryd.prog 203 #[.int .i64 c] w (RowPost w 3 (foldOfL c)) := by
  rcases ha : foldA c with _ | _
  · have ha' := ha
    unfold foldA at ha'
    rw [Bool.or_eq_false_iff, Bool.or_eq_false_iff, Bool.or_eq_false_iff] at ha'
    obtain ⟨a1, a2, a3, a4⟩ := ha'
    rcases hb : foldB c with _ | _
    · rcases h3 : (c == 223) with _ | _ <;> rcases h4 : (c == 962) with _ | _
      all_goals
        have Hs := Lib.hid (show foldOfL c = _ by unfold foldOfL; rw [ha, hb, h3, h4])
        have Hb := Lib.hid (show ([198, 208, 216, 222] : List Int).any (· == c) = false from hb)
        clear ha hb
        go_enter Tryd.func203, Tryd.ntmps203
        go_wp2_with (first
          | (go_at_call 82; refine (l1In_any _ _ _ _).mono ?_; rintro e w' ⟨rfl, rfl⟩)
          | (go_at_call 207; refine (l3Among_any c _ 4 4 [198, 208, 216, 222] (by omega) _ ((reads_new _ _ _ 1 4 (by rfl)).more (by simp))).mono ?_; rintro e w1 ⟨rfl, hb1⟩; rw [Hb.out]))
        go_ret
        rw [Hs.out]
        exact row_lit2 (belN (belA (bel0 w) _) hb1) _ _ _ rfl rfl (by simp)
    · have Hs := Lib.hid (show foldOfL c = [c + 32] by unfold foldOfL; rw [ha, hb]; rfl)
      have Hb := Lib.hid (show ([198, 208, 216, 222] : List Int).any (· == c) = true from hb)
      have hbd : 0 ≤ c ∧ c ≤ 2000 := by
        unfold foldB at hb
        simp only [List.any_cons, List.any_nil, Bool.or_false, Bool.or_eq_true, beq_iff_eq] at hb
        omega
      obtain ⟨hb0, hb1⟩ := hbd
      clear ha hb
      go_enter Tryd.func203, Tryd.ntmps203
      go_wp2_with (first
        | (go_at_call 82; refine (l1In_any _ _ _ _).mono ?_; rintro e w' ⟨rfl, rfl⟩)
        | (go_at_call 207; refine (l3Among_any c _ 4 4 [198, 208, 216, 222] (by omega) _ ((reads_new _ _ _ 1 4 (by rfl)).more (by simp))).mono ?_; rintro e w1 ⟨rfl, hb1⟩; rw [Hb.out]))
      go_ret
      rw [Hs.out]
      exact row_lit2 (belN (belA (bel0 w) _) hb1) _ _ _ rfl rfl (by simp)
  · have Hs := Lib.hid (show foldOfL c = [c + 32] by unfold foldOfL; rw [ha]; rfl)
    have ha' := ha
    unfold foldA at ha'
    have hbd : 0 ≤ c ∧ c ≤ 2000 := by
      simp only [Bool.or_eq_true, inI_true] at ha'
      omega
    obtain ⟨hb0, hb1⟩ := hbd
    clear ha'
    rcases a1 : inI c 65 90 with _ | _ <;> rcases a2 : inI c 913 929 with _ | _ <;> rcases a3 : inI c 931 937 with _ | _ <;> rcases a4 : inI c 1040 1071 with _ | _
    all_goals try (exfalso; unfold foldA at ha; rw [a1, a2, a3, a4] at ha; exact absurd ha (by decide))
    all_goals
      clear ha
      go_enter Tryd.func203, Tryd.ntmps203
      go_wp2_with (go_at_call 82; refine (l1In_any _ _ _ _).mono ?_; rintro e w' ⟨rfl, rfl⟩)
      go_ret
      rw [Hs.out]
      exact row_lit w _ _ _ _ rfl rfl (by simp)

end Go.Proofs.YtlgjehdocppofaaDoor
