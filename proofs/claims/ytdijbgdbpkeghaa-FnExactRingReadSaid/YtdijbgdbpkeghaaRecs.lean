/- Rows of records: equality, marks. -/
import Derived.Test.YtdijbgdbpkeghaaStrs
namespace Go.Proofs.Ytdijbgdbpkeghaa
open Go Go.RowKit

/-- Records as cells. -/
def RS (l : List (Int × ByteArray)) : List Value := l.flatMap fun r => [.int .i64 r.1, .string r.2]
theorem RS_cons (e : Int × ByteArray) (l : List (Int × ByteArray)) : RS (e :: l) = .int .i64 e.1 :: .string e.2 :: RS l := rfl
theorem RS_append (a b : List (Int × ByteArray)) : RS (a ++ b) = RS a ++ RS b := by simp [RS]
theorem RS_length (l : List (Int × ByteArray)) : (RS l).length = l.length * 2 := by
  induction l with
  | nil => rfl
  | cons e l ih => rw [RS_cons]; simp [ih]; omega
theorem RS_get : ∀ (l : List (Int × ByteArray)) (k : Nat) (h : k < l.length), (RS l)[k * 2]? = some (.int .i64 l[k].1) ∧ (RS l)[k * 2 + 1]? = some (.string l[k].2)
  | e :: l, 0, _ => ⟨rfl, rfl⟩
  | e :: l, k + 1, h => by
    have := RS_get l k (by simpa using h)
    rw [RS_cons, show (k + 1) * 2 = k * 2 + 1 + 1 by omega]
    simpa using this
theorem RS_cells (l : List (Int × ByteArray)) : ∀ u ∈ RS l, u.oneCell' = true := by
  induction l with
  | nil => intro u hu; cases hu
  | cons e l ih =>
    intro u hu
    rw [RS_cons] at hu
    simp only [List.mem_cons] at hu
    rcases hu with rfl | rfl | hu
    · rfl
    · rfl
    · exact ih u hu
theorem cell_flat {w : World} {ad : Addr} {v : Value} (h : w.cell? ad = some v) : ∃ b o, ad = ⟨b, o, none⟩ := by
  obtain ⟨b, o, sp⟩ := ad
  cases sp with
  | none => exact ⟨b, o, rfl⟩
  | some x =>
    simp only [World.cell?] at h
    split at h <;> simp at h
theorem reads_strF {w : World} {B n : Nat} {A : Option Addr} {xs : List ByteArray} (h : Reads w B 1 A n (SS xs)) {k : Nat} (hk : k < n) :
    ∃ (hk' : k < xs.length) (b o : Nat), A = some ⟨b, o, none⟩ ∧ b < B ∧ w.cell? ⟨b, o + k, none⟩ = some (.string xs[k]) := by
  obtain ⟨hk', ad, rfl, hb, hc⟩ := reads_str h hk
  obtain ⟨_, ad0, e0, _, hc0⟩ := reads_str h (k := 0) (by omega)
  injection e0 with e0
  subst e0
  have ha0 : ad.add 0 = ad := by simp [Addr.add]
  rw [ha0] at hc0
  obtain ⟨b, o, rfl⟩ := cell_flat hc0
  have ha : ∀ j, (Addr.add ⟨b, o, none⟩ j) = ⟨b, o + j, none⟩ := fun j => by unfold Addr.add; split <;> simp_all
  rw [ha] at hc
  exact ⟨hk', b, o, rfl, hb, hc⟩
theorem reads_rec {w : World} {B n : Nat} {A : Option Addr} {xs : List (Int × ByteArray)} (h : Reads w B 2 A n (RS xs)) {k : Nat} (hk : k < n) :
    ∃ (hk' : k < xs.length) (b o : Nat), A = some ⟨b, o, none⟩ ∧ b < B ∧ w.cell? ⟨b, o + k * 2, none⟩ = some (.int .i64 xs[k].1) ∧ w.cell? ⟨b, o + k * 2 + 1, none⟩ = some (.string xs[k].2) := by
  have hl : k < xs.length := by have := h.1; rw [RS_length] at this; omega
  obtain ⟨ad, rfl, hb, hc⟩ := h.2 (by omega)
  obtain ⟨h0, h1⟩ := RS_get xs k hl
  have z0 := hc _ _ h0
  have z1 := hc _ _ h1
  obtain ⟨h00, _⟩ := RS_get xs 0 (by omega)
  have z00 := hc 0 _ h00
  obtain ⟨b, o, hbo⟩ := cell_flat z00
  have hbo' : ad = ⟨b, o, none⟩ := by rw [← hbo]; simp [Addr.add]
  subst hbo'
  have ha : ∀ j, (Addr.add ⟨b, o, none⟩ j) = ⟨b, o + j, none⟩ := fun j => by unfold Addr.add; split <;> simp_all
  rw [ha] at z0 z1
  exact ⟨hl, b, o, rfl, hb, z0, by rw [show o + k * 2 + 1 = o + (k * 2 + 1) by omega]; exact z1⟩

set_option maxHeartbeats 1000000 in
theorem eqRec_self (q : Int) (t : ByteArray) (w : World) :
    Calls Try.prog 25 #[.agg #[.int .i64 q, .string t], .agg #[.int .i64 q, .string t]] w fun x w' => x = .returned (.bool true) ∧ Below w.heap.size w w' := by
  go_enter Try.func25, Try.ntmps25
  go_wp2
  go_ret
  exact ⟨rfl, belA (belA (bel0 w) _) _⟩

set_option maxRecDepth 100000 in
set_option maxHeartbeats 1000000 in
theorem eqRecS_self (A A' : Option Addr) (n c c' : Nat) (xs : List (Int × ByteArray)) (hn : n ≤ 10000000) (w : World) (hr : Reads w w.heap.size 2 A n (RS xs)) (hr' : Reads w w.heap.size 2 A' n (RS xs)) :
    Calls Try.prog 40 #[.slice A n c, .slice A' n c'] w fun e w' => e = .returned (.bool true) ∧ Below w.heap.size w w' := by
  have Hr := Lib.hid hr
  have Hr' := Lib.hid hr'
  clear hr hr'
  go_enter Try.func40, Try.ntmps40
  go_wp2
  go_loopw [5] (fun i wr => ∃ (j : Nat), j ≤ n ∧ i = .int .i64 j ∧ Below w.heap.size w wr)
    (fun i _ => n - (intOf i).toNat)
  case atStart => exact ⟨0, by omega, rfl, bel0 w⟩
  case round =>
    obtain ⟨j, hj, rfl, hbel⟩ := hrel
    by_cases hlt : j < n
    · obtain ⟨hkx, b, o, rfl, hadb, z0, z1⟩ := reads_rec (Hr.out.below hbel) hlt
      obtain ⟨_, b', o', rfl, hadb', y0, y1⟩ := reads_rec (Hr'.out.below hbel) hlt
      have q0 : (0 : Int) ≤ ↑j := by omega
      have q1 : (↑j : Int) < ↑n := by omega
      go_wp2_with fail
      go_region_held3 (fun w' => w'.cell? ⟨b, o + j * 2, none⟩ = some (.int .i64 xs[j].1) ∧ w'.cell? ⟨b, o + j * 2 + 1, none⟩ = some (.string xs[j].2) ∧ w'.cell? ⟨b', o' + j * 2, none⟩ = some (.int .i64 xs[j].1) ∧ w'.cell? ⟨b', o' + j * 2 + 1, none⟩ = some (.string xs[j].2)) (first | go_keep | (refine ⟨keep1 hb1 ?_, keep1 hb1 ?_, keep1 hb1 ?_, keep1 hb1 ?_⟩ <;> go_keep))
        (first
          | (go_at_call 25; refine (eqRec_self xs[j].1 xs[j].2 _).mono ?_; rintro e w1 ⟨rfl, hb1⟩))
      go_wp2
      go_roundw
      case rel => exact ⟨j + 1, by omega, by go_num, belN hbel.drew hb1⟩
      case measure => simp [intOf]; omega
    · go_wp2
      go_ret
      exact ⟨rfl, hbel⟩

/-- So many marked records from a number on. -/
def markR (k : Int) : Int × ByteArray := (k, markB (k + 1))
def marksR (k : Int) (n : Nat) : List (Int × ByteArray) := (List.range n).map fun (j : Nat) => markR (k + 2 * (j : Int))
theorem marksR_len (k : Int) (n : Nat) : (marksR k n).length = n := by simp [marksR]
theorem marksR_get (k : Int) (n j : Nat) (h : j < n) : (marksR k n)[j]'(by rw [marksR_len]; exact h) = markR (k + 2 * (j : Int)) := by simp [marksR]
theorem marksR_succ (k : Int) (n : Nat) : marksR k (n + 1) = marksR k n ++ [markR (k + 2 * (n : Int))] := by simp [marksR, List.range_succ]

theorem RS_set2 {n k : Nat} (l : List (Int × ByteArray)) (xs : List Value) (x : Int × ByteArray) (hk : l.length = k) (hx : k < n) (hxs : xs.length = n * 2) :
    ((RS l ++ xs.drop (k * 2)).set (k * 2) (.int .i64 x.1)).set (k * 2 + 1) (.string x.2) = RS (l ++ [x]) ++ xs.drop ((k + 1) * 2) := by
  subst hk
  obtain ⟨a, b, r, hr⟩ : ∃ a b r, xs.drop (l.length * 2) = a :: b :: r := by
    have : 2 ≤ (xs.drop (l.length * 2)).length := by rw [List.length_drop]; omega
    match hh : xs.drop (l.length * 2), this with
    | a :: b :: r, _ => exact ⟨a, b, r, rfl⟩
  have hd : xs.drop ((l.length + 1) * 2) = r := by
    rw [show (l.length + 1) * 2 = l.length * 2 + 2 by omega, ← List.drop_drop, hr]; rfl
  rw [hd, hr, RS_append, show RS [x] = [.int .i64 x.1, .string x.2] from rfl]
  have hz : l.length * 2 = (RS l).length := (RS_length l).symm
  rw [hz]
  simp
theorem own_cells2 {w : World} {base : Nat} {e : TypeId} {n g c : Nat} {xs : List Value} (h : w.ownsRow base e 2 (.slice (some ⟨g, 0, none⟩) n c) n xs) (k : Nat) (hk : k < n) :
    (∃ u, w.cell? ⟨g, k * 2, none⟩ = some u) ∧ (∃ u, w.cell? ⟨g, k * 2 + 1, none⟩ = some u) := by
  have hl := h.1
  have f : ∀ i, i < n * 2 → ∃ u, w.cell? ⟨g, i, none⟩ = some u := fun i hi => ⟨xs[i]'(by omega), by rw [h.cellAt i (by omega)]; exact List.getElem?_eq_getElem (by omega)⟩
  exact ⟨f _ (by omega), f _ (by omega)⟩

set_option maxRecDepth 100000 in
set_option maxHeartbeats 1000000 in
theorem markRecS_v (base : Nat) (A : Option Addr) (n c : Nat) (xs : List Value) (k : Int) (hk0 : 0 ≤ k) (hk : k ≤ 100000000) (hn : n ≤ 10000000) (w : World) (hown : w.ownsRow base 26 2 (.slice A n c) n xs) :
    Calls Try.prog 43 #[.slice A n c, .int .i64 k] w fun e w' => e = .returned (.int .i64 (k + 2 * (n : Int))) ∧ w'.ownsRow base 26 2 (.slice A n c) n (RS (marksR k n)) ∧ w.grownBy w' (Value.slice A n c).ownBlock := by
  rcases Nat.eq_zero_or_pos n with h0 | h0
  · subst h0
    have hx : xs = [] := List.eq_nil_of_length_eq_zero (by have := hown.1; omega)
    subst hx
    have Hown := Lib.hid hown
    clear hown
    go_enter Try.func43, Try.ntmps43
    go_wp2
    refine wp_loop_rounds 1 ?_
    rw [rounds_succ]
    go_wp2
    go_ret
    exact ⟨ret_int (by simp), Hown.out, grown_refl _ _⟩
  · obtain ⟨g, c', he⟩ := own_form1 hown h0
    simp only [Value.slice.injEq] at he
    obtain ⟨rfl, _, rfl⟩ := he
    have hl := hown.1
    have Hown := Lib.hid hown
    clear hown
    go_enter Try.func43, Try.ntmps43
    go_wp2
    go_loopw [1, 5] (fun m i wr => ∃ (j : Nat) (q : Int), j ≤ n ∧ i = .int .i64 j ∧ m = .int .i64 q ∧ Hid (q = k + 2 * j) ∧ wr.ownsRow base 26 2 (.slice (some ⟨g, 0, none⟩) n c) n (RS (marksR k j) ++ xs.drop (j * 2)) ∧ w.grownBy wr (some g))
      (fun _ i _ => n - (intOf i).toNat)
    case atStart => exact ⟨0, k, by omega, rfl, rfl, by simp [Hid], by simpa [marksR, RS] using Hown.out, grown_refl _ _⟩
    case round =>
      obtain ⟨j, q, hj, rfl, rfl, hq, hown, hg⟩ := hrel
      have hq' := hq.out
      have b0 : 0 ≤ q := by omega
      have b1 : q ≤ 200000000 := by omega
      clear hq'
      by_cases hlt : j < n
      · obtain ⟨⟨u0, c0⟩, ⟨u1, c1⟩⟩ := own_cells2 hown j hlt
        have f0 := own_frozen hown (j * 2)
        have f1 := own_frozen hown (j * 2 + 1)
        have q0 : (0 : Int) ≤ ↑j := by omega
        have q1 : (↑j : Int) < ↑n := by omega
        go_wp2_with fail
        refine (markText_any _ (by omega) _).mono ?_
        rintro e w1 ⟨rfl, hb1⟩
        have own1 := own_below (own_set hown (j * 2) (.int .i64 q)) hb1 (Nat.le_refl _)
        have hg1 := gb_below (only_sc hg (j * 2) (.int .i64 q)) hb1
        have own2 := own_set own1 (j * 2 + 1) (.string (markB (q + 1)))
        have hes : ((RS (marksR k j) ++ xs.drop (j * 2)).set (j * 2) (.int .i64 q)).set (j * 2 + 1) (.string (markB (q + 1))) = RS (marksR k (j + 1)) ++ xs.drop ((j + 1) * 2) := by
          have := RS_set2 (marksR k j) xs (markR q) (marksR_len k j) hlt hl
          rw [marksR_succ, ← hq.out]; exact this
        rw [hes] at own2
        have hg2 := only_sc hg1 (j * 2 + 1) (.string (markB (q + 1)))
        clear c0 c1 f0 f1
        obtain ⟨⟨u0, c0⟩, ⟨u1, c1⟩⟩ := own_cells2 own1 j hlt
        have f1 := own_frozen own1 (j * 2 + 1)
        have Own2 := Lib.hid own2
        clear own1 own2 hown
        go_wp2_with fail
        go_roundw
        case rel => exact ⟨j + 1, q + 1 + 1, by omega, by go_num, by go_num, by have := hq.out; show _ = _; omega, Own2.out, hg2⟩
        case measure => simp [intOf]; omega
      · obtain rfl : j = n := by omega
        rw [List.drop_eq_nil_of_le (by omega), List.append_nil] at hown
        go_wp2
        go_ret
        exact ⟨ret_int hq.out, hown, hg⟩

set_option maxRecDepth 100000 in
set_option maxHeartbeats 1000000 in
theorem heldRecS_any (A : Option Addr) (n c : Nat) (k : Int) (hk0 : 0 ≤ k) (hk : k ≤ 100000000) (hn : n ≤ 10000000) (w : World) (hr : Reads w w.heap.size 2 A n (RS (marksR k n))) :
    Calls Try.prog 44 #[.slice A n c, .int .i64 k] w fun e w' => e = .returned (.int .i64 (k + 2 * (n : Int))) ∧ Below w.heap.size w w' := by
  have Hr := Lib.hid hr
  clear hr
  go_enter Try.func44, Try.ntmps44
  go_wp2
  go_loopw [1, 5] (fun m i wr => ∃ (j : Nat) (q : Int), j ≤ n ∧ i = .int .i64 j ∧ m = .int .i64 q ∧ Hid (q = k + 2 * j) ∧ Below w.heap.size w wr)
    (fun _ i _ => n - (intOf i).toNat)
  case atStart => exact ⟨0, k, by omega, rfl, rfl, by simp [Hid], bel0 w⟩
  case round =>
    obtain ⟨j, q, hj, rfl, rfl, hq, hbel⟩ := hrel
    have hq' := hq.out
    have b0 : 0 ≤ q := by omega
    have b1 : q ≤ 200000000 := by omega
    clear hq'
    by_cases hlt : j < n
    · obtain ⟨hkx, b, o, rfl, hadb, z0, z1⟩ := reads_rec (Hr.out.below hbel) hlt
      rw [marksR_get k n j hlt, ← hq.out] at z0 z1
      simp only [markR] at z0 z1
      have q0 : (0 : Int) ≤ ↑j := by omega
      have q1 : (↑j : Int) < ↑n := by omega
      go_wp2_with fail
      go_region_held3 (fun w' => w'.cell? ⟨b, o + j * 2 + 1, none⟩ = some (.string (markB (q + 1)))) (first | go_keep | exact keep1 hb1 (by go_keep))
        (first
          | (go_at_call 74; refine (markText_any _ (by omega) _).mono ?_; rintro e w1 ⟨rfl, hb1⟩))
      clear z0 z1
      go_wp2
      go_roundw
      case rel => exact ⟨j + 1, q + 1 + 1, by omega, by go_num, by go_num, by have := hq.out; show _ = _; omega, belN hbel.drew hb1⟩
      case measure => simp [intOf]; omega
    · obtain rfl : j = n := by omega
      go_wp2
      go_ret
      exact ⟨ret_int hq.out, hbel⟩

end Go.Proofs.Ytdijbgdbpkeghaa
