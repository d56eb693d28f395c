/- Slices of texts: parts of a text, marks. -/
import Derived.Test.YtajgenjfhcapjaaBase
namespace Go.Proofs.Ytajgenjfhcapjaa
open Go Go.RowKit

theorem Try.el_str : ElemOk Try.prog 23 9 (.string ⟨#[]⟩) 1 16 := ⟨Try.underlying23, by kernel_rfl, rfl, by omega⟩

/-- Texts as cells. -/
def SS (l : List ByteArray) : List Value := l.map .string
theorem SS_append (a b : List ByteArray) : SS (a ++ b) = SS a ++ SS b := by simp [SS]
theorem SS_length (l : List ByteArray) : (SS l).length = l.length := by simp [SS]
theorem SS_get (l : List ByteArray) (k : Nat) (h : k < l.length) : (SS l)[k]? = some (.string l[k]) := by simp [SS, h]
theorem SS_cells (l : List ByteArray) : ∀ u ∈ SS l, u.oneCell' = true := by
  intro u hu
  simp only [SS, List.mem_map] at hu
  obtain ⟨b, _, rfl⟩ := hu
  rfl
theorem reads_str {w : World} {B n : Nat} {A : Option Addr} {xs : List ByteArray} (h : Reads w B 1 A n (SS xs)) {k : Nat} (hk : k < n) : ∃ (hk' : k < xs.length) (ad : Addr), A = some ad ∧ ad.block < B ∧ w.cell? (ad.add k) = some (.string xs[k]) := by
  obtain ⟨ad, u, h1, h2, h3, h4⟩ := h.at_ hk
  have hl : k < xs.length := by have := h.1; rw [SS_length] at this; omega
  rw [SS_get _ _ hl] at h3
  injection h3 with h3
  exact ⟨hl, ad, h1, h2, by rw [h4, h3]⟩
/-- A text's parts between bytes of one kind. -/
def splitL (by_ : UInt8) : List UInt8 → List (List UInt8)
  | [] => [[]]
  | b :: l => if b = by_ then [] :: splitL by_ l else
    match splitL by_ l with
    | [] => [[b]]
    | p :: ps => (b :: p) :: ps
/-- The first part with something ahead of it. -/
def glue (c : List UInt8) : List (List UInt8) → List (List UInt8)
  | [] => [c]
  | p :: ps => (c ++ p) :: ps
theorem splitL_ne (x : UInt8) : ∀ l, splitL x l ≠ []
  | [] => by simp [splitL]
  | b :: l => by
    rw [splitL]
    split
    · simp
    · cases h : splitL x l with
      | nil => simp
      | cons => simp
theorem glue_nil (x : UInt8) (l : List UInt8) : glue [] (splitL x l) = splitL x l := by
  cases h : splitL x l with
  | nil => exact absurd h (splitL_ne x l)
  | cons => simp [glue]
theorem glue_hit (x : UInt8) (c l : List UInt8) : glue c (splitL x (x :: l)) = c :: splitL x l := by rw [splitL, if_pos rfl, glue]; simp
theorem glue_miss {x b : UInt8} (c l : List UInt8) (h : b ≠ x) : glue c (splitL x (b :: l)) = glue (c ++ [b]) (splitL x l) := by
  rw [splitL, if_neg h]
  cases h : splitL x l with
  | nil => exact absurd h (splitL_ne x l)
  | cons => simp [glue]
theorem glue_end (x : UInt8) (c : List UInt8) : glue c (splitL x []) = [c] := by simp [splitL, glue]
theorem splitL_len (x : UInt8) : ∀ l, (splitL x l).length ≤ l.length + 1
  | [] => by simp [splitL]
  | b :: l => by
    have := splitL_len x l
    rw [splitL]
    split
    · simp; omega
    · cases h : splitL x l with
      | nil => simp
      | cons => rw [h] at this; simp at this ⊢; omega
def splitB (s : ByteArray) (x : UInt8) : List ByteArray := (splitL x s.data.toList).map str
theorem splitB_len (s : ByteArray) (x : UInt8) : (splitB s x).length ≤ s.size + 1 := by
  have := splitL_len x s.data.toList
  rw [size_list] at this
  simpa [splitB] using this
theorem sub_str (s : ByteArray) (i j : Nat) : s.extract i j = str ((s.data.toList.take j).drop i) := bytes_ext (by rw [sub_list, str_list])
theorem at_drop (s : ByteArray) (k : Nat) (h : k < s.size) : s.data.toList.drop k = s[k] :: s.data.toList.drop (k + 1) := by
  have h0 : k < s.data.toList.length := by rw [size_list]; exact h
  exact List.drop_eq_getElem_cons h0
theorem take_drop_snoc (s : ByteArray) (f k : Nat) (hf : f ≤ k) (h : k < s.size) : (s.data.toList.take (k + 1)).drop f = (s.data.toList.take k).drop f ++ [s[k]] := by
  rw [take_snoc s k h, List.drop_append_of_le_length (by rw [List.length_take, size_list]; omega)]
theorem take_drop_self (s : ByteArray) (k : Nat) : (s.data.toList.take k).drop k = [] := List.drop_eq_nil_of_le (by rw [List.length_take]; omega)

def digL (n : Nat) : List UInt8 := if _h : n = 0 then [] else digL (n / 10) ++ [UInt8.ofNat (48 + n % 10)]
termination_by n
decreasing_by omega
theorem digL_zero : digL 0 = [] := by rw [digL, dif_pos rfl]
theorem digL_pos {n : Nat} (h : n ≠ 0) : digL n = digL (n / 10) ++ [UInt8.ofNat (48 + n % 10)] := by rw [digL, dif_neg h]
theorem digL_le : ∀ (m n : Nat), n ≤ m → (digL n).length ≤ n
  | 0, n, h => by
    obtain rfl : n = 0 := by omega
    rw [digL_zero]; simp
  | m + 1, n, h => by
    by_cases h0 : n = 0
    · rw [h0, digL_zero]; simp
    · have := digL_le m (n / 10) (by omega)
      rw [digL_pos h0, List.length_append]; simp; omega
/-- The mark of a number. -/
def markB (k : Int) : ByteArray := if k ≤ 0 then str [109, 48] else str (109 :: digL k.toNat)
theorem conv_one {P : Program} {src dst e : TypeId} (hs : P.underlying src = some (.slice e)) (he : P.underlying e = some (.int .u8)) (hd : P.underlying dst = some .string) (b : UInt8) (W : World) (g : Nat) (hg : g = W.heap.size) :
    (convert src dst (.slice (some ⟨g, 0, none⟩) 1 1)).run P (W.alloc (.cells #[.int .u8 b.toNat] e)) = .ok (.string (str [b])) (W.alloc (.cells #[.int .u8 b.toNat] e)) := by
  subst hg
  exact run_convert_own hs he hd (l := [b]) (World.ownsRow_lit (e := e) (size := 1) W #[.int .u8 b.toNat] 1 (Nat.le_refl _) (by unfold maxLen; omega) rfl)

set_option maxRecDepth 100000 in
set_option maxHeartbeats 2000000 in
theorem markText_any (k : Int) (hk : k ≤ 1000000000) (w : World) :
    Calls Try.prog 66 #[.int .i64 k] w fun e w' => e = .returned (.string (markB k)) ∧ Below w.heap.size w w' := by
  by_cases h0 : k ≤ 0
  · have Hf := Lib.hid (show markB k = str [109, 48] by unfold markB; rw [if_pos h0])
    go_enter Try.func66, Try.ntmps66
    go_wp2
    go_ret
    exact ⟨ret_str Hf.out.symm, bel0 w⟩
  · have Hf := Lib.hid (show markB k = str (109 :: digL k.toNat) by unfold markB; rw [if_neg h0])
    have Hl := Lib.hid (digL_le k.toNat k.toNat (Nat.le_refl _))
    have cv := conv_one Try.underlying72 Try.underlying5 Try.underlying9
    go_enter Try.func66, Try.ntmps66
    go_wp2
    go_loopw [0, 3] (fun m o wr => ∃ (q : Int) (l : List UInt8), m = .int .i64 q ∧ 0 ≤ q ∧ q ≤ 1000000000 ∧ o = .string (str l) ∧ Hid (digL q.toNat ++ l = digL k.toNat) ∧ Below w.heap.size w wr)
      (fun m _ _ => (intOf m).toNat)
    case atStart => exact ⟨k, [], rfl, by omega, hk, rfl, by simp [Hid], bel0 w⟩
    case round =>
      obtain ⟨q, l, rfl, hq0, hq1, rfl, heq, hbel⟩ := hrel
      have hz : (str l).size ≤ 1000000000 := by
        have h1 := congrArg List.length heq.out
        rw [List.length_append] at h1
        have := Hl.out
        rw [str_size]; omega
      by_cases hp : 0 < q
      · obtain ⟨b, hbv, hbb⟩ := byte_ex (48 + q % 10) (48 + q.toNat % 10) (by omega) (by omega)
        have c1 := cv b
        clear cv
        have z1 : (str [b]).size = 1 := rfl
        go_wp2
        go_roundw
        case rel =>
          refine ⟨q / 10, b :: l, rfl, by omega, by omega, by rw [str_append]; rfl, ?_, belA hbel _⟩
          show _ = _
          rw [← heq.out, digL_pos (n := q.toNat) (by omega), hbb.out, show (q / 10).toNat = q.toNat / 10 by omega]
          simp
        case measure => simp [intOf]; omega
      · have hq : q.toNat = 0 := by omega
        have He := Lib.hid (show l = digL k.toNat by rw [← heq.out, hq, digL_zero]; rfl)
        clear hq cv
        have z1 := str1_size 109
        go_wp2
        go_ret
        exact ⟨ret_str (by rw [Hf.out, ← He.out]; exact bytes_ext (by rw [append_list]; rfl)), hbel⟩

/-- So many marks from a number on. -/
def marks (k : Int) (n : Nat) : List ByteArray := (List.range n).map fun (j : Nat) => markB (k + j)
theorem marks_len (k : Int) (n : Nat) : (marks k n).length = n := by simp [marks]
theorem marks_get (k : Int) (n j : Nat) (h : j < n) : (marks k n)[j]'(by rw [marks_len]; exact h) = markB (k + j) := by simp [marks]
theorem marks_succ (k : Int) (n : Nat) : marks k (n + 1) = marks k n ++ [markB (k + n)] := by simp [marks, List.range_succ]
theorem marks_set (k : Int) (j : Nat) (xs : List ByteArray) (hj : j < xs.length) : (SS (marks k j) ++ (SS xs).drop j).set j (.string (markB (k + j))) = SS (marks k (j + 1)) ++ (SS xs).drop (j + 1) := by
  rw [List.set_append_right _ _ (by rw [SS_length, marks_len]; exact Nat.le_refl _), SS_length, marks_len, Nat.sub_self, marks_succ, SS_append, List.drop_eq_getElem_cons (by rw [SS_length]; exact hj), List.set_cons_zero, List.append_assoc]
  rfl

set_option maxRecDepth 100000 in
set_option maxHeartbeats 2000000 in
theorem markStringS_any (base : Nat) (v : Value) (n : Nat) (xs : List ByteArray) (k : Int) (hk0 : 0 ≤ k) (hk : k ≤ 100000000) (hn : n ≤ 10000000) (w : World) (hown : w.ownsRow base 9 1 v n (SS xs)) :
    Calls Try.prog 43 #[v, .int .i64 k] w fun e w' => e = .returned (.int .i64 (k + n)) ∧ w'.ownsRow base 9 1 v n (SS (marks k n)) ∧ w.grownBy w' v.ownBlock := by
  have hl : xs.length = n := by have := hown.1; rw [SS_length] at this; omega
  rcases Nat.eq_zero_or_pos n with h0 | h0
  · subst h0
    obtain rfl : xs = [] := List.eq_nil_of_length_eq_zero hl
    obtain ⟨A, c, rfl, _, _, _⟩ := own_vals hown
    have Hown := Lib.hid hown
    clear hown
    go_enter Try.func43, Try.ntmps43
    go_wp2
    refine wp_loop_rounds 1 ?_
    rw [rounds_succ]
    go_wp2
    go_ret
    exact ⟨ret_int (by simp), Hown.out, grown_refl _ _⟩
  · obtain ⟨g, c, rfl⟩ := own_form1 hown h0
    have Hown := Lib.hid hown
    clear hown
    go_enter Try.func43, Try.ntmps43
    go_wp2
    go_loopw [1, 5] (fun m i wr => ∃ (j : Nat), j ≤ n ∧ i = .int .i64 j ∧ m = .int .i64 (k + j) ∧ wr.ownsRow base 9 1 (.slice (some ⟨g, 0, none⟩) n c) n (SS (marks k j) ++ (SS xs).drop j) ∧ w.grownBy wr (some g))
      (fun _ i _ => n - (intOf i).toNat)
    case atStart => exact ⟨0, by omega, rfl, by go_num, by simpa [marks, SS] using Hown.out, grown_refl _ _⟩
    case round =>
      obtain ⟨j, hj, rfl, rfl, hown, hg⟩ := hrel
      by_cases hlt : j < n
      · have Hset := Lib.hid (marks_set k j xs (by omega))
        have hc : wr.cell? ⟨g, j, none⟩ = some (.string (xs[j]'(by omega))) := by
          rw [hown.cellAt j (by omega), List.getElem?_append_right (by rw [SS_length, marks_len]; omega), SS_length, marks_len, Nat.sub_self, List.getElem?_drop, Nat.add_zero, SS_get _ _ (by omega)]
        go_wp2_with fail
        refine (markText_any _ (by omega) _).mono ?_
        rintro e w1 ⟨rfl, hb1⟩
        have own1 := own_below hown hb1 (Nat.le_refl _)
        have c1 := keep1 hb1 hc
        have f1 := own_frozen own1 j
        clear hc hown
        go_wp2_with fail
        go_roundw
        case rel => exact ⟨j + 1, by omega, by go_num, by go_num, by rw [← Hset.out]; exact own_set own1 j _, only_sc (gb_below hg hb1) j _⟩
        case measure => simp [intOf]; omega
      · obtain rfl : j = n := by omega
        go_wp2
        go_ret
        exact ⟨rfl, by rw [List.drop_eq_nil_of_le (by rw [SS_length]; omega), List.append_nil] at hown; exact hown, hg⟩

set_option maxRecDepth 100000 in
set_option maxHeartbeats 2000000 in
theorem heldStringS_any (A : Option Addr) (n c : Nat) (k : Int) (hk0 : 0 ≤ k) (hk : k ≤ 100000000) (hn : n ≤ 10000000) (w : World) (hr : Reads w w.heap.size 1 A n (SS (marks k n))) :
    Calls Try.prog 46 #[.slice A n c, .int .i64 k] w fun e w' => e = .returned (.int .i64 (k + n)) ∧ Below w.heap.size w w' := by
  have Hr := Lib.hid hr
  clear hr
  go_enter Try.func46, Try.ntmps46
  go_wp2
  go_loopw [1, 5] (fun m i wr => ∃ (j : Nat), j ≤ n ∧ i = .int .i64 j ∧ m = .int .i64 (k + j) ∧ Below w.heap.size w wr)
    (fun _ i _ => n - (intOf i).toNat)
  case atStart => exact ⟨0, by omega, rfl, by go_num, bel0 w⟩
  case round =>
    obtain ⟨j, hj, rfl, rfl, hbel⟩ := hrel
    by_cases hlt : j < n
    · obtain ⟨hkx, ad, rfl, hadb, hcell⟩ := reads_str (Hr.out.below hbel) hlt
      rw [marks_get k n j hlt] at hcell
      have q0 : (0 : Int) ≤ ↑j := by omega
      have q1 : (↑j : Int) < ↑n := by omega
      go_wp2_with fail
      go_region_held3 (fun w' => w'.cell? (ad.add j) = some (.string (markB (k + j)))) (first | go_keep | exact keep1 hb1 (by go_keep))
        (first
          | (go_at_call 66; refine (markText_any _ (by omega) _).mono ?_; rintro e w1 ⟨rfl, hb1⟩))
      go_wp2
      go_roundw
      case rel => exact ⟨j + 1, by omega, by go_num, by go_num, belN hbel.drew hb1⟩
      case measure => simp [intOf]; omega
    · obtain rfl : j = n := by omega
      go_wp2
      go_ret
      exact ⟨rfl, hbel⟩

set_option maxRecDepth 100000 in
set_option maxHeartbeats 2000000 in
theorem eqStringS_self (A A' : Option Addr) (n c c' : Nat) (xs : List ByteArray) (hn : n ≤ 10000000) (w : World) (hr : Reads w w.heap.size 1 A n (SS xs)) (hr' : Reads w w.heap.size 1 A' n (SS xs)) :
    Calls Try.prog 40 #[.slice A n c, .slice A' n c'] w fun e w' => e = .returned (.bool true) ∧ Below w.heap.size w w' := by
  have Hr := Lib.hid hr
  have Hr' := Lib.hid hr'
  clear hr hr'
  go_enter Try.func40, Try.ntmps40
  go_wp2
  go_loopw [5] (fun i wr => ∃ (j : Nat), j ≤ n ∧ i = .int .i64 j ∧ Below w.heap.size w wr)
    (fun i _ => n - (intOf i).toNat)
  case atStart => exact ⟨0, by omega, rfl, bel0 w⟩
  case round =>
    obtain ⟨j, hj, rfl, hbel⟩ := hrel
    by_cases hlt : j < n
    · obtain ⟨hkx, ad, rfl, hadb, hcell⟩ := reads_str (Hr.out.below hbel) hlt
      obtain ⟨_, ad', rfl, hadb', hcell'⟩ := reads_str (Hr'.out.below hbel) hlt
      have q0 : (0 : Int) ≤ ↑j := by omega
      have q1 : (↑j : Int) < ↑n := by omega
      go_wp2_with fail
      go_region_held3 (fun w' => w'.cell? (ad.add j) = some (.string xs[j]) ∧ w'.cell? (ad'.add j) = some (.string xs[j])) (go_keep) (fail)
      go_wp2
      go_roundw
      case rel => exact ⟨j + 1, by omega, by go_num, hbel.drew⟩
      case measure => simp [intOf]; omega
    · go_wp2
      go_ret
      exact ⟨rfl, hbel⟩

end Go.Proofs.Ytajgenjfhcapjaa
