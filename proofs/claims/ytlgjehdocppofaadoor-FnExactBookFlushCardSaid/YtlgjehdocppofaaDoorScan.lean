/- The walks of the reader's methods (num, cut, piece, many), and of l7Vars and l7Take. -/
import Derived.Test.YtlgjehdocppofaaDoorNum2
namespace Go.Proofs.YtlgjehdocppofaaDoor
open Go Go.RowKit

def dropB (s : ByteArray) (k : Nat) : ByteArray := s.extract k s.size
def takeB (s : ByteArray) (k : Nat) : ByteArray := s.extract 0 k
theorem dropB_list (s : ByteArray) (k : Nat) : (dropB s k).data.toList = s.data.toList.drop k := by
  rw [dropB, sub_list, take_all s _ (Nat.le_refl _)]
theorem takeB_list (s : ByteArray) (k : Nat) : (takeB s k).data.toList = s.data.toList.take k := by rw [takeB, sub_list]; rfl
theorem dropB_size (s : ByteArray) (k : Nat) : (dropB s k).size = s.size - k := by rw [← size_list, dropB_list, List.length_drop, size_list]
theorem takeB_size (s : ByteArray) (k : Nat) (h : k ≤ s.size) : (takeB s k).size = k := by rw [← size_list, takeB_list, List.length_take, size_list]; omega
theorem takeB_le (s : ByteArray) (k : Nat) : (takeB s k).size ≤ s.size := by rw [← size_list, takeB_list, List.length_take, size_list]; omega
theorem Blk.c0 {w : World} {g : Nat} {t : TypeId} {a b : Value} (h : Blk w g t #[a, b]) : w.cell? ⟨g, 0, none⟩ = some a := h.cell 0
theorem Blk.c1 {w : World} {g : Nat} {t : TypeId} {a b : Value} (h : Blk w g t #[a, b]) : w.cell? ⟨g, 1, none⟩ = some b := h.cell 1
theorem Blk.s0 {w : World} {g : Nat} {t : TypeId} {a b : Value} (h : Blk w g t #[a, b]) (u : Value) : Blk (w.setCell ⟨g, 0, none⟩ u) g t #[u, b] := h.set_ 0 u
theorem Blk.s1 {w : World} {g : Nat} {t : TypeId} {a b : Value} (h : Blk w g t #[a, b]) (u : Value) : Blk (w.setCell ⟨g, 1, none⟩ u) g t #[a, u] := h.set_ 1 u
theorem grown_refl (w : World) (row : Option Nat) : w.grownBy w row := World.grownBy.refl w row

/-- Reading a number off (rest, bad). -/
def scN (R : ByteArray) (b : Bool) : Int × ByteArray × Bool :=
  if b = true ∨ (rvB R).2 = 0 then (0, R, true) else ((rvB R).1, dropB R (rvB R).2, false)
/-- Cutting so many bytes off (rest, bad). -/
def scC (R : ByteArray) (b : Bool) (n : Int) : ByteArray × ByteArray × Bool :=
  if b = true ∨ inI n 0 R.size = false then (str [], R, true) else (takeB R n.toNat, dropB R n.toNat, false)

set_option maxRecDepth 100000 in
set_option maxHeartbeats 1000000 in
theorem num_any (g : Nat) (R : ByteArray) (b : Bool) (hR : R.size ≤ 1000000000) (w : World) (hb : Blk w g 128 #[.string R, .bool b]) :
    Calls Tryd.prog 97 #[.pointer (some ⟨g, 0, none⟩)] w fun e w' =>
      e = .returned (.int .i64 (scN R b).1) ∧ Blk w' g 128 #[.string (scN R b).2.1, .bool (scN R b).2.2] ∧ w.grownBy w' (some g) := by
  have hle := rvB_le R
  obtain ⟨n, k, h⟩ : ∃ n k, rvB R = (n, k) := ⟨_, _, rfl⟩
  rw [h] at hle
  obtain ⟨hk7, hkl, hn⟩ := hle
  simp only at hk7 hkl hn
  have c0 := hb.c0
  have c1 := hb.c1
  by_cases hbad : b = true ∨ k = 0
  · have Hs := Lib.hid (show scN R b = (0, R, true) by unfold scN; rw [h, if_pos hbad])
    have fin : ∀ w1, Below w.heap.size w w1 → Blk (w1.setCell ⟨g, 1, none⟩ (.bool true)) g 128 #[.string (scN R b).2.1, .bool (scN R b).2.2] ∧ w.grownBy (w1.setCell ⟨g, 1, none⟩ (.bool true)) (some g) := fun w1 hb1 => by
      rw [Hs.out]
      exact ⟨(hb.below hb1 hb.lt).s1 _, only_setCell (only_of_below hb1 _) (.inl rfl) _⟩
    have Fin := Lib.hid fin
    clear fin
    have hk0 : b = false → ((k : Int) == 0) = true := fun hf => by
      rcases hbad with h1 | h1
      · rw [h1] at hf; cases hf
      · rw [h1]; rfl
    clear hbad
    cases b
    all_goals
      go_enter Tryd.func97, Tryd.ntmps97
      go_wp2_with fail
      refine (readVar_impl R hR _).mono ?_
      rintro e w1 ⟨rfl, hb1⟩
      have c10 := (hb.below hb1 hb.lt).c0
      have c11 := (hb.below hb1 hb.lt).c1
      have f11 := (hb.below hb1 hb.lt).frozen 1
      clear c0 c1
      go_wp2
      go_ret
      exact ⟨ret_int (by rw [Hs.out]), Fin.out w1 hb1⟩
  · have Hs := Lib.hid (show scN R b = ((n : Int), dropB R k, false) by unfold scN; rw [h, if_neg hbad])
    have fin : ∀ w1, Below w.heap.size w w1 → Blk (w1.setCell ⟨g, 0, none⟩ (.string (R.extract k R.size))) g 128 #[.string (scN R b).2.1, .bool (scN R b).2.2] ∧ w.grownBy (w1.setCell ⟨g, 0, none⟩ (.string (R.extract k R.size))) (some g) := fun w1 hb1 => by
      rw [Hs.out]
      refine ⟨?_, only_setCell (only_of_below hb1 _) (.inl rfl) _⟩
      have h2 := (hb.below hb1 hb.lt).s0 (.string (R.extract k R.size))
      have hf : b = false := by cases b <;> simp at hbad ⊢
      rw [hf] at h2
      exact h2
    have Fin := Lib.hid fin
    clear fin
    have hf : b = false := by cases b <;> simp at hbad ⊢
    have hk0 : ((k : Int) == 0) = false := by simp at hbad ⊢; omega
    clear hbad
    subst hf
    go_enter Tryd.func97, Tryd.ntmps97
    go_wp2_with fail
    refine (readVar_impl R hR _).mono ?_
    rintro e w1 ⟨rfl, hb1⟩
    have c10 := (hb.below hb1 hb.lt).c0
    have c11 := (hb.below hb1 hb.lt).c1
    have f10 := (hb.below hb1 hb.lt).frozen 0
    clear c0 c1
    go_wp2
    go_ret
    exact ⟨ret_int (by rw [Hs.out]), Fin.out w1 hb1⟩

theorem gb_trans {a b c : World} {g : Nat} (h : a.grownBy b (some g)) (k : b.grownBy c (some g)) : a.grownBy c (some g) :=
  ⟨k.os.trans h.os, k.tape.trans h.tape, k.output.trans h.output, Nat.le_trans h.size k.size, fun i hi hne => (k.block i (Nat.lt_of_lt_of_le hi h.size) hne).trans (h.block i hi hne)⟩

set_option maxRecDepth 100000 in
set_option maxHeartbeats 1000000 in
theorem cut_any (g : Nat) (R : ByteArray) (b : Bool) (n : Int) (w : World) (hb : Blk w g 128 #[.string R, .bool b]) :
    Calls Tryd.prog 111 #[.pointer (some ⟨g, 0, none⟩), .int .i64 n] w fun e w' =>
      e = .returned (.string (scC R b n).1) ∧ Blk w' g 128 #[.string (scC R b n).2.1, .bool (scC R b n).2.2] ∧ w.grownBy w' (some g) := by
  have c0 := hb.c0
  have c1 := hb.c1
  by_cases hbad : b = true ∨ inI n 0 R.size = false
  · have Hs := Lib.hid (show scC R b n = (str [], R, true) by unfold scC; rw [if_pos hbad])
    have f1 := hb.frozen 1
    have Hb := Lib.hid hb
    clear hb
    have hk0 : b = false → inI n 0 (R.size : Int) = false := fun hf => by
      rcases hbad with h1 | h1
      · rw [h1] at hf; cases hf
      · exact h1
    clear hbad
    cases b
    all_goals
      go_enter Tryd.func111, Tryd.ntmps111
      go_wp2_with (go_at_call 88; refine (within_any _ _ _ _).mono ?_; rintro e w' ⟨rfl, rfl⟩)
      go_ret
      refine ⟨ret_str (by rw [Hs.out]; rfl), ?_, only_setCell (grown_refl _ _) (.inl rfl) _⟩
      rw [Hs.out]
      exact Hb.out.s1 _
  · have Hs := Lib.hid (show scC R b n = (takeB R n.toNat, dropB R n.toNat, false) by unfold scC; rw [if_neg hbad])
    have hf : b = false := by cases b <;> simp at hbad ⊢
    subst hf
    have hin : inI n 0 (R.size : Int) = true := by
      rcases hin : inI n 0 (R.size : Int) with _ | _
      · simp [hin] at hbad
      · rfl
    obtain ⟨h0, h1⟩ := inI_true.1 hin
    have f0 := hb.frozen 0
    have Hb := Lib.hid hb
    clear hb hbad
    go_enter Tryd.func111, Tryd.ntmps111
    go_wp2_with (go_at_call 88; refine (within_any _ _ _ _).mono ?_; rintro e w' ⟨rfl, rfl⟩)
    go_ret
    refine ⟨ret_str (by rw [Hs.out]; rfl), ?_, only_setCell (grown_refl _ _) (.inl rfl) _⟩
    rw [Hs.out]
    exact Hb.out.s0 _

/-- So many numbers one behind the other from a place on, and where they end. -/
def varsAt (l : List UInt8) : Nat → Int → Option (List Nat × Int)
  | 0, a => some ([], a)
  | n + 1, a => if a < 0 ∨ (l.length : Int) < a then none else
    if (rv (l.drop a.toNat)).2 = 0 then none else
      match varsAt l n (a + (rv (l.drop a.toNat)).2) with
      | none => none
      | some (xs, q) => some ((rv (l.drop a.toNat)).1 :: xs, q)
theorem varsAt_succ (l : List UInt8) (n : Nat) (a : Int) : varsAt l (n + 1) a = if a < 0 ∨ (l.length : Int) < a then none else
    if (rv (l.drop a.toNat)).2 = 0 then none else
      match varsAt l n (a + (rv (l.drop a.toNat)).2) with
      | none => none
      | some (xs, q) => some ((rv (l.drop a.toNat)).1 :: xs, q) := rfl
theorem varsAt_bd : ∀ (l : List UInt8) (n : Nat) (a : Int) (xs : List Nat) (q : Int), varsAt l n a = some (xs, q) → xs.length = n ∧ (∀ x ∈ xs, x < 562949953421312) ∧ a ≤ q ∧ (0 < n → 0 ≤ a ∧ q ≤ l.length)
  | l, 0, a, xs, q, h => by
    simp only [varsAt, Option.some.injEq, Prod.mk.injEq] at h
    obtain ⟨rfl, rfl⟩ := h
    simp
  | l, n + 1, a, xs, q, h => by
    rw [varsAt_succ] at h
    by_cases h1 : a < 0 ∨ (l.length : Int) < a
    · rw [if_pos h1] at h; cases h
    · rw [if_neg h1] at h
      by_cases h2 : (rv (l.drop a.toNat)).2 = 0
      · rw [if_pos h2] at h; cases h
      · rw [if_neg h2] at h
        have hle := rv_le (l.drop a.toNat)
        rw [List.length_drop] at hle
        rcases h3 : varsAt l n (a + (rv (l.drop a.toNat)).2) with _ | ⟨ys, q'⟩
        · rw [h3] at h; cases h
        · rw [h3] at h
          simp only [Option.some.injEq, Prod.mk.injEq] at h
          obtain ⟨rfl, rfl⟩ := h
          obtain ⟨e1, e2, e3, e4⟩ := varsAt_bd l n _ ys q' h3
          refine ⟨by simp [e1], ?_, by omega, fun _ => ?_⟩
          · intro x hx
            rcases List.mem_cons.1 hx with rfl | hx
            · exact hle.2.2
            · exact e2 x hx
          · rcases n with _ | n
            · simp only [varsAt, Option.some.injEq, Prod.mk.injEq] at h3
              omega
            · have := e4 (by omega); omega
/-- What is behind so many numbers more. -/
def pre (xs : List Nat) : Option (List Nat × Int) → Option (List Nat × Int)
  | none => none
  | some (ys, q) => some (xs ++ ys, q)
theorem pre_nil (o : Option (List Nat × Int)) : pre [] o = o := by rcases o with _ | ⟨ys, q⟩ <;> rfl
theorem pre_step (l : List UInt8) (xs : List Nat) (n : Nat) (a : Int) (h0 : 0 ≤ a) (h1 : a ≤ l.length) (h2 : (rv (l.drop a.toNat)).2 ≠ 0) :
    pre xs (varsAt l (n + 1) a) = pre (xs ++ [(rv (l.drop a.toNat)).1]) (varsAt l n (a + (rv (l.drop a.toNat)).2)) := by
  rw [varsAt_succ, if_neg (by omega), if_neg h2]
  rcases varsAt l n (a + (rv (l.drop a.toNat)).2) with _ | ⟨ys, q⟩ <;> simp [pre]
theorem pre_out (l : List UInt8) (xs : List Nat) (n : Nat) (a : Int) (h : a < 0 ∨ (l.length : Int) < a) : pre xs (varsAt l (n + 1) a) = none := by
  rw [varsAt_succ, if_pos h]; rfl
theorem pre_zero (l : List UInt8) (xs : List Nat) (n : Nat) (a : Int) (h0 : 0 ≤ a) (h1 : a ≤ l.length) (h2 : (rv (l.drop a.toNat)).2 = 0) : pre xs (varsAt l (n + 1) a) = none := by
  rw [varsAt_succ, if_neg (by omega), if_pos h2]; rfl

/-- Numbers as cells. -/
def I64 (l : List Nat) : List Value := l.map fun (n : Nat) => .int .i64 (n : Int)
theorem I64_append (a b : List Nat) : I64 (a ++ b) = I64 a ++ I64 b := by simp [I64]
theorem I64_cells (l : List Nat) : ∀ u ∈ I64 l, u.oneCell' = true := by
  intro u hu
  simp only [I64, List.mem_map] at hu
  obtain ⟨b, _, rfl⟩ := hu
  rfl
/-- What l7Vars leaves. -/
def VarsPost (w : World) (T : TypeId) (o : Option (List Nat × Int)) (e : Ending) (w' : World) : Prop :=
  Below w.heap.size w w' ∧ ((∃ xs q v, o = some (xs, q) ∧ e = .returned (.tuple #[v, .int .i64 q]) ∧ w'.ownsRow w.heap.size T 1 v xs.length (I64 xs)) ∨ (∃ v, o = none ∧ e = .returned (.tuple #[v, .int .i64 (-1)])))

theorem Tryd.el_int : ElemOk Tryd.prog 133 3 (.int .i64 0) 1 8 := ⟨Tryd.underlying133, by kernel_rfl, rfl, by omega⟩

set_option maxRecDepth 100000 in
set_option maxHeartbeats 1000000 in
theorem l7Vars_any (s : ByteArray) (a : Int) (n : Nat) (hs : s.size ≤ 1000000000) (hn : n ≤ 1000) (ha : -1 ≤ a) (ha' : a ≤ 1000000000) (w : World) :
    Calls Tryd.prog 105 #[.string s, .int .i64 a, .int .i64 n] w (VarsPost w 3 (varsAt s.data.toList n a)) := by
  go_enter Tryd.func105, Tryd.ntmps105
  go_wp2
  go_loopw [1, 8, 9] (fun p v i wr => ∃ (xs : List Nat) (m : Nat) (q : Int), i = .int .i64 xs.length ∧ xs.length + m = n ∧ p = .int .i64 q ∧ -1 ≤ q ∧ q ≤ 1000000000 ∧ Hid (varsAt s.data.toList n a = pre xs (varsAt s.data.toList m q)) ∧ wr.ownsRow w.heap.size 3 1 v xs.length (I64 xs) ∧ Below w.heap.size w wr)
    (fun _ _ i _ => n - (intOf i).toNat)
  case atStart => exact ⟨[], n, a, rfl, by simp, rfl, by omega, by omega, (pre_nil _).symm, World.ownsRow_lit w #[] 0 (Nat.le_refl _) (by unfold maxLen; omega) rfl, belA (bel0 w) _⟩
  case round =>
    obtain ⟨xs, m, q, rfl, hm, rfl, hq0, hq1, heq, hown, hbel⟩ := hrel
    have hsz := hbel.size
    rcases m with _ | m
    · have hlt : ¬ (xs.length : Int) < (n : Int) := by omega
      go_wp2
      go_ret2
      exact ⟨hbel, .inl ⟨xs, q, _, by rw [heq.out]; simp [varsAt, pre], rfl, hown⟩⟩
    · have hlt : (xs.length : Int) < (n : Int) := by omega
      by_cases hneg : q < 0
      · go_wp2
        go_ret2
        exact ⟨hbel, .inr ⟨_, by rw [heq.out, pre_out _ _ _ _ (.inl hneg)], rfl⟩⟩
      · by_cases hbig : (s.size : Int) < q
        · go_wp2
          go_ret2
          exact ⟨hbel, .inr ⟨_, by rw [heq.out, pre_out _ _ _ _ (.inr (by rw [size_list]; exact hbig))], rfl⟩⟩
        · have hq2 : 0 ≤ q := by omega
          have hq3 : q ≤ (s.size : Int) := by omega
          have hz := dropB_size s q.toNat
          have hle := rvB_le (dropB s q.toNat)
          have hd := Lib.hid (show rvB (dropB s q.toNat) = rv (s.data.toList.drop q.toNat) by rw [rvB, dropB_list])
          obtain ⟨x, k, h⟩ : ∃ x k, rvB (dropB s q.toNat) = (x, k) := ⟨_, _, rfl⟩
          rw [h] at hle
          obtain ⟨hk7, hkl, hx⟩ := hle
          simp only at hk7 hkl hx
          have H := Lib.hid h
          have Hx := Lib.hid hx
          unfold dropB at h hz hkl
          clear hneg hbig hx
          by_cases hk : k = 0
          · have hk0 : ((k : Int) == 0) = true := by rw [hk]; rfl
            have Hk := Lib.hid hk
            clear hk hkl
            go_wp2_with (go_at_call 168; refine (readVar_spec _ (by omega) _).mono ?_; rintro e w1 ⟨rfl, hb1⟩)
            go_ret2
            exact ⟨belN hbel hb1, .inr ⟨_, by rw [heq.out, pre_zero _ _ _ _ hq2 (by rw [size_list]; exact hq3) (by rw [← hd.out, H.out]; exact Hk.out)], rfl⟩⟩
          · have hk0 : ((k : Int) == 0) = false := by simp; exact hk
            have Hk := Lib.hid hk
            clear hk
            go_wp2_with (first
              | (go_at_call 168; refine (readVar_spec _ (by omega) _).mono ?_; rintro e w1 ⟨rfl, hb1⟩; have hown1 := own_below hown hb1 (Nat.le_refl _); have hs1 := hb1.size)
              | (at_builtin; go_must (refine wpList_app _ rfl _ _ _ rfl Tryd.el_int (hown1.alloc _) rfl (reads_new _ _ _ _ 1 (by rfl)) rfl (I64_cells [x]) (max_small (by omega)) (by omega) (by simp; omega) ?_); intro v2 w2 own2 hg2 _ hb2))
            go_roundw
            case rel =>
              refine ⟨xs ++ [x], m, q + k, by rw [List.length_append]; go_num, by rw [List.length_append]; simp; omega, rfl, by omega, by omega, ?_, ?_, (((hbel.trans (hb1.mono hsz)).alloc (by omega) _)).trans hb2⟩
              · show _ = _
                rw [heq.out, pre_step _ _ _ _ hq2 (by rw [size_list]; exact hq3) (by rw [← hd.out, H.out]; exact Hk.out), ← hd.out, H.out]
              · rw [I64_append, List.length_append]; exact own2
            case measure => simp [intOf]; omega

end Go.Proofs.YtlgjehdocppofaaDoor
