/- Marks in rows of entries and in pages. -/
import Derived.Test.YthdbomkddpnhaaaGreatDoorPages
import Derived.Test.YthdbomkddpnhaaaGreatDoorStrs
import Derived.Test.YthdbomkddpnhaaaGreatDoorPgOk
namespace Go.Proofs.YthdbomkddpnhaaaGreatDoor
open Go Go.RowKit

/-- So many marked entries from a number on. -/
def markD (k : Int) : EntD := ⟨k, k + 1, markB (k + 1 + 1), k + 1 + 1 + 1⟩
def marksD (k : Int) (n : Nat) : List EntD := (List.range n).map fun (j : Nat) => markD (k + 4 * (j : Int))
theorem marksD_len (k : Int) (n : Nat) : (marksD k n).length = n := by simp [marksD]
theorem marksD_get (k : Int) (n j : Nat) (h : j < n) : (marksD k n)[j]'(by rw [marksD_len]; exact h) = markD (k + 4 * (j : Int)) := by simp [marksD]
theorem marksD_succ (k : Int) (n : Nat) : marksD k (n + 1) = marksD k n ++ [markD (k + 4 * (n : Int))] := by simp [marksD, List.range_succ]

theorem ES_set4 {n k : Nat} (l : List EntD) (xs : List Value) (x : EntD) (hk : l.length = k) (hx : k < n) (hxs : xs.length = n * 4) :
    ((((ES l ++ xs.drop (k * 4)).set (k * 4) (.int .i64 x.h)).set (k * 4 + 1) (.int .i64 x.i)).set (k * 4 + 2) (.string x.s)).set (k * 4 + 3) (.int .i64 x.d) = ES (l ++ [x]) ++ xs.drop ((k + 1) * 4) := by
  subst hk
  obtain ⟨a, b, c, d, r, hr⟩ : ∃ a b c d r, xs.drop (l.length * 4) = a :: b :: c :: d :: r := by
    have : 4 ≤ (xs.drop (l.length * 4)).length := by rw [List.length_drop]; omega
    match hh : xs.drop (l.length * 4), this with
    | a :: b :: c :: d :: r, _ => exact ⟨a, b, c, d, r, rfl⟩
  have hd : xs.drop ((l.length + 1) * 4) = r := by
    rw [show (l.length + 1) * 4 = l.length * 4 + 4 by omega, ← List.drop_drop, hr]; rfl
  rw [hd, hr, ES_append, show ES [x] = [.int .i64 x.h, .int .i64 x.i, .string x.s, .int .i64 x.d] from rfl]
  have hz : l.length * 4 = (ES l).length := (ES_length l).symm
  rw [hz]
  simp

set_option maxRecDepth 100000 in
set_option maxHeartbeats 400000 in
theorem markEntS_any (base g n c : Nat) (xs : List Value) (k : Int) (hk0 : 0 ≤ k) (hk : k ≤ 100000000) (hn : n ≤ 10000000) (w : World) (hown : w.ownsRow base 72 4 (.slice (some ⟨g, 0, none⟩) n c) n xs) :
    Calls Tryz.prog 93 #[.slice (some ⟨g, 0, none⟩) n c, .int .i64 k] w fun e w' => e = .returned (.int .i64 (k + 4 * (n : Int))) ∧ w'.ownsRow base 72 4 (.slice (some ⟨g, 0, none⟩) n c) n (ES (marksD k n)) ∧ w.grownBy w' (some g) := by
  have hl := hown.1
  have Hown := Lib.hid hown
  clear hown
  go_enter Tryz.func93, Tryz.ntmps93
  go_wp2
  go_loopw [1, 5] (fun m i wr => ∃ (j : Nat) (q : Int), j ≤ n ∧ i = .int .i64 j ∧ m = .int .i64 q ∧ Hid (q = k + 4 * j) ∧ wr.ownsRow base 72 4 (.slice (some ⟨g, 0, none⟩) n c) n (ES (marksD k j) ++ xs.drop (j * 4)) ∧ w.grownBy wr (some g))
    (fun _ i _ => n - (intOf i).toNat)
  case atStart => exact ⟨0, k, by omega, rfl, rfl, by simp [Hid], by simpa [marksD, ES] using Hown.out, grown_refl _ _⟩
  case round =>
    obtain ⟨j, q, hj, rfl, rfl, hq, hown, hg⟩ := hrel
    have hq' := hq.out
    have b0 : 0 ≤ q := by omega
    have b1 : q ≤ 200000000 := by omega
    clear hq'
    by_cases hlt : j < n
    · obtain ⟨⟨u0, c0⟩, ⟨u1, c1⟩, ⟨u2, c2⟩, ⟨u3, c3⟩⟩ := own_cells4 hown j hlt
      have f0 := own_frozen hown (j * 4)
      have f1 := own_frozen hown (j * 4 + 1)
      have f2 := own_frozen hown (j * 4 + 2)
      have f3 := own_frozen hown (j * 4 + 3)
      have hlt0 := (own_lt hown).2
      have q0 : (0 : Int) ≤ ↑j := by omega
      have q1 : (↑j : Int) < ↑n := by omega
      go_wp2_with fail
      refine (markText_any _ (by omega) _).mono ?_
      rintro e w1 ⟨rfl, hb1⟩
      have own1 := own_below (own_set (own_set hown (j * 4) (.int .i64 q)) (j * 4 + 1) (.int .i64 (q + 1))) hb1 (Nat.le_refl _)
      have hg1 := gb_below (only_sc (only_sc hg (j * 4) (.int .i64 q)) (j * 4 + 1) (.int .i64 (q + 1))) hb1
      have own2 := own_set (own_set own1 (j * 4 + 2) (.string (markB (q + 1 + 1)))) (j * 4 + 3) (.int .i64 (q + 1 + 1 + 1))
      have hes : ((((ES (marksD k j) ++ xs.drop (j * 4)).set (j * 4) (.int .i64 q)).set (j * 4 + 1) (.int .i64 (q + 1))).set (j * 4 + 2) (.string (markB (q + 1 + 1)))).set (j * 4 + 3) (.int .i64 (q + 1 + 1 + 1)) = ES (marksD k (j + 1)) ++ xs.drop ((j + 1) * 4) := by
        have := ES_set4 (marksD k j) xs (markD q) (marksD_len k j) hlt hl
        rw [marksD_succ, ← hq.out]; exact this
      rw [hes] at own2
      have hg2 := only_sc (only_sc hg1 (j * 4 + 2) (.string (markB (q + 1 + 1)))) (j * 4 + 3) (.int .i64 (q + 1 + 1 + 1))
      clear c0 c1 c2 c3 f0 f1 f2 f3
      obtain ⟨⟨u0, c0⟩, ⟨u1, c1⟩, ⟨u2, c2⟩, ⟨u3, c3⟩⟩ := own_cells4 own1 j hlt
      have f2 := own_frozen own1 (j * 4 + 2)
      have f3 := own_frozen own1 (j * 4 + 3)
      have Own2 := Lib.hid own2
      clear own1 own2 hown
      go_wp2_with fail
      go_roundw
      case rel => exact ⟨j + 1, q + 1 + 1 + 1 + 1, by omega, by go_num, by go_num, by have := hq.out; show _ = _; omega, Own2.out, hg2⟩
      case measure => simp [intOf]; omega
    · obtain rfl : j = n := by omega
      rw [List.drop_eq_nil_of_le (by omega), List.append_nil] at hown
      go_wp2
      go_ret
      exact ⟨ret_int hq.out, hown, hg⟩

set_option maxRecDepth 100000 in
set_option maxHeartbeats 1000000 in
theorem heldEntS_any (A : Option Addr) (n c : Nat) (k : Int) (hk0 : 0 ≤ k) (hk : k ≤ 100000000) (hn : n ≤ 10000000) (w : World) (hr : Reads w w.heap.size 4 A n (ES (marksD k n))) :
    Calls Tryz.prog 95 #[.slice A n c, .int .i64 k] w fun e w' => e = .returned (.int .i64 (k + 4 * (n : Int))) ∧ Below w.heap.size w w' := by
  have Hr := Lib.hid hr
  clear hr
  go_enter Tryz.func95, Tryz.ntmps95
  go_wp2
  go_loopw [1, 5] (fun m i wr => ∃ (j : Nat) (q : Int), j ≤ n ∧ i = .int .i64 j ∧ m = .int .i64 q ∧ Hid (q = k + 4 * j) ∧ Below w.heap.size w wr)
    (fun _ i _ => n - (intOf i).toNat)
  case atStart => exact ⟨0, k, by omega, rfl, rfl, by simp [Hid], bel0 w⟩
  case round =>
    obtain ⟨j, q, hj, rfl, rfl, hq, hbel⟩ := hrel
    have hq' := hq.out
    have b0 : 0 ≤ q := by omega
    have b1 : q ≤ 200000000 := by omega
    clear hq'
    by_cases hlt : j < n
    · obtain ⟨hkx, b, o, rfl, hadb, z0, z1, z2, z3⟩ := reads_ent (Hr.out.below hbel) hlt
      rw [marksD_get k n j hlt, ← hq.out] at z0 z1 z2 z3
      simp only [markD] at z0 z1 z2 z3
      have q0 : (0 : Int) ≤ ↑j := by omega
      have q1 : (↑j : Int) < ↑n := by omega
      go_wp2_with fail
      go_region_held3 (fun w' => w'.cell? ⟨b, o + j * 4 + 2, none⟩ = some (.string (markB (q + 1 + 1)))) (first | go_keep | exact keep1 hb1 (by go_keep))
        (first
          | (go_at_call 98; refine (markText_any _ (by omega) _).mono ?_; rintro e w1 ⟨rfl, hb1⟩))
      have z3' := keep1 hb1 (show wr.drew.cell? _ = _ from z3)
      clear z0 z1 z2 z3
      go_wp2
      go_roundw
      case rel => exact ⟨j + 1, q + 1 + 1 + 1 + 1, by omega, by go_num, by go_num, by have := hq.out; show _ = _; omega, belN hbel.drew hb1⟩
      case measure => simp [intOf]; omega
    · obtain rfl : j = n := by omega
      go_wp2
      go_ret
      exact ⟨ret_int hq.out, hbel⟩

/-- Only blocks between two marks have turned. -/
structure Betw (lo hi : Nat) (w w' : World) : Prop where
  os : w'.os = w.os
  tape : w'.tape = w.tape
  output : w'.output = w.output
  size : w.heap.size ≤ w'.heap.size
  block : ∀ i, i < w.heap.size → (i < lo ∨ hi ≤ i) → w'.heap[i]? = w.heap[i]?
theorem Betw.refl (lo hi : Nat) (w : World) : Betw lo hi w w := ⟨rfl, rfl, rfl, Nat.le_refl _, fun _ _ _ => rfl⟩
theorem Betw.grown {lo hi g : Nat} {w wr w' : World} (h : Betw lo hi w wr) (hg : wr.grownBy w' (some g)) (h1 : lo ≤ g) (h2 : g < hi) : Betw lo hi w w' :=
  ⟨hg.os.trans h.os, hg.tape.trans h.tape, hg.output.trans h.output, Nat.le_trans h.size hg.size, fun i hi' ho => (hg.block i (Nat.lt_of_lt_of_le hi' h.size) (fun e => by injection e with e; omega)).trans (h.block i hi' ho)⟩
theorem Betw.below {lo hi : Nat} {w w' : World} (h : Betw lo hi w w') (hl : lo ≤ w.heap.size) : Below lo w w' := ⟨h.os, h.tape, h.output, h.size, fun i hi' => h.block i (by omega) (.inl hi')⟩
theorem own_betw {lo hi : Nat} {w w' : World} {base : Nat} {e : TypeId} {size n : Nat} {v : Value} {xs : List Value} (h : w.ownsRow base e size v n xs) (hb : Betw lo hi w w') (hg : ∀ g, v.ownBlock = some g → g < lo ∨ hi ≤ g) : w'.ownsRow base e size v n xs := by
  obtain ⟨h1, h2⟩ := h
  refine ⟨h1, ?_⟩
  rcases h2 with h2 | ⟨g, cap, cur, rfl, hg', hh, r⟩
  · exact .inl h2
  · exact .inr ⟨g, cap, cur, rfl, hg', (hb.block g (Array.getElem?_eq_some_iff.1 hh).1 (hg g (by simp [Value.ownBlock]))).trans hh, r⟩
theorem own_grown {w w' : World} {base : Nat} {e : TypeId} {size n g g' c : Nat} {xs : List Value} (h : w.ownsRow base e size (.slice (some ⟨g, 0, none⟩) n c) n xs) (hg : w.grownBy w' (some g')) (hne : g ≠ g') : w'.ownsRow base e size (.slice (some ⟨g, 0, none⟩) n c) n xs :=
  own_same h (hg.block g (own_lt h).2 (fun e => hne (by injection e)))

theorem own_apart {w w' : World} {b e' : Nat} {e : TypeId} {s s' n n' : Nat} {v v' : Value} {xs xs' : List Value} (h : w.ownsRow b e s v n xs) (h' : w'.ownsRow w.heap.size e' s' v' n' xs') : v.ownBlock = none ∨ v.ownBlock ≠ v'.ownBlock := by
  cases hv : v.ownBlock with
  | none => exact .inl rfl
  | some k =>
    refine .inr fun e => ?_
    have h1 := h.lt k hv
    have h2 := h'.lt k e.symm
    omega
theorem own_reads {w : World} {b : Nat} {e : TypeId} {s n c : Nat} {A : Option Addr} {xs : List Value} (h : w.ownsRow b e s (.slice A n c) n xs) : Reads w w.heap.size s A n xs := by
  obtain ⟨A', c', he, _, _, h⟩ := own_vals h
  simp only [Value.slice.injEq] at he
  obtain ⟨rfl, _, _⟩ := he
  exact h

set_option maxRecDepth 100000 in
set_option maxHeartbeats 1000000 in
theorem markEntS_v (base : Nat) (A : Option Addr) (n c : Nat) (xs : List Value) (k : Int) (hk0 : 0 ≤ k) (hk : k ≤ 100000000) (hn : n ≤ 10000000) (w : World) (hown : w.ownsRow base 72 4 (.slice A n c) n xs) :
    Calls Tryz.prog 93 #[.slice A n c, .int .i64 k] w fun e w' => e = .returned (.int .i64 (k + 4 * (n : Int))) ∧ w'.ownsRow base 72 4 (.slice A n c) n (ES (marksD k n)) ∧ w.grownBy w' (Value.slice A n c).ownBlock := by
  rcases Nat.eq_zero_or_pos n with h0 | h0
  · subst h0
    have hx : xs = [] := List.eq_nil_of_length_eq_zero (by have := hown.1; omega)
    subst hx
    have Hown := Lib.hid hown
    clear hown
    go_enter Tryz.func93, Tryz.ntmps93
    go_wp2
    refine wp_loop_rounds 1 ?_
    rw [rounds_succ]
    go_wp2
    go_ret
    exact ⟨ret_int (by simp), Hown.out, grown_refl _ _⟩
  · obtain ⟨g, c', he⟩ := own_form1 hown h0
    simp only [Value.slice.injEq] at he
    obtain ⟨rfl, _, rfl⟩ := he
    exact markEntS_any base g n c xs k hk0 hk hn w hown

end Go.Proofs.YthdbomkddpnhaaaGreatDoor
