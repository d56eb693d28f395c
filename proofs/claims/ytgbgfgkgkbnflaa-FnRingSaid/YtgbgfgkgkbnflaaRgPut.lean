/- A record is put into a ring, in both packages. -/
import Derived.Test.YtgbgfgkgkbnflaaRgB
namespace Go.Proofs.Ytgbgfgkgkbnflaa
open Go Go.RowKit

theorem own_nilC (w : World) (base size : Nat) (e : TypeId) : w.ownsRow base e size (.slice none 0 0) 0 [] := ⟨by simp, .inl ⟨rfl, rfl⟩⟩
theorem own_cell1 {w : World} {base : Nat} {e : TypeId} {n g c : Nat} {xs : List Value} (h : w.ownsRow base e 1 (.slice (some ⟨g, 0, none⟩) n c) n xs) (k : Nat) (hk : k < n) : ∃ u, w.cell? ⟨g, k, none⟩ = some u := by
  have hl := h.1
  exact ⟨xs[k]'(by omega), by rw [h.cellAt k (by omega)]; exact List.getElem?_eq_getElem (by omega)⟩
theorem SS_set (L : List ByteArray) (k : Nat) (s : ByteArray) : (SS L).set k (.string s) = SS (L.set k s) := by unfold SS; rw [List.map_set]
theorem own_put {w : World} {base : Nat} {e : TypeId} {n g c : Nat} {L : List ByteArray} (h : w.ownsRow base e 1 (.slice (some ⟨g, 0, none⟩) n c) n (SS L)) (k : Nat) (s : ByteArray) :
    (w.setCell ⟨g, k, none⟩ (.string s)).ownsRow base e 1 (.slice (some ⟨g, 0, none⟩) n c) n (SS (L.set k s)) := by rw [← SS_set]; exact own_set h k (.string s)

set_option maxHeartbeats 1000000 in
theorem copyTexts_impl (A : Option Addr) (n c : Nat) (xs : List ByteArray) (hn : n ≤ 10000000) (w : World) (hr : Reads w w.heap.size 1 A n (SS xs)) :
    Calls Try.prog 17 #[.slice A n c] w fun e w' => ∃ v, e = .returned v ∧ w'.ownsRow w.heap.size 9 1 v n (SS xs) ∧ Below w.heap.size w w' := by
  have Hr := Lib.hid hr
  clear hr
  go_enter Try.func17, Try.ntmps17
  go_wp2_with (at_builtin; refine wpList_app _ rfl _ _ _ rfl Try.el_str (own_nilC _ w.heap.size 1 _) rfl Hr.out rfl (SS_cells _) (by unfold maxLen; omega) (by omega) (Nat.le_refl _) ?_; intro v1 w1 own1 _ _ hb1; rw [Nat.zero_add, List.nil_append] at own1; have Own1 := Lib.hid own1; clear own1)
  go_ret
  exact ⟨_, rfl, Own1.out, hb1⟩

/-- A record that can be shown. -/
def okR (q : Int) (t : ByteArray) : Bool := inI q 1 1000000 && decide (t.size ≤ 80)
theorem show_yes {q : Int} {t : ByteArray} (h : okR q t = true) : showRecB q t = sumB (recB q t) := by unfold showRecB; exact if_pos h
theorem show_no {q : Int} {t : ByteArray} (h : okR q t = false) : showRecB q t = ⟨#[]⟩ := by unfold showRecB; rw [if_neg (by rw [show (inI q 1 1000000 && decide (t.size ≤ 80)) = okR q t from rfl, h]; simp)]; rfl
theorem ne_tests {s : ByteArray} (h : s.size ≠ 0) : ¬ (s.toList = []) ∧ s.toList.isEmpty = false ∧ (s.toList == []) = false := by
  have h1 : ¬ (s.toList = []) := by
    rw [ByteArray.toList_eq]
    intro h2
    apply h
    have := congrArg List.length h2
    simpa using this
  refine ⟨h1, ?_, ?_⟩ <;> (cases hl : s.toList with | nil => exact absurd hl h1 | cons _ _ => rfl)
/-- The ring behind a record that is put. -/
noncomputable def putL (L : List ByteArray) (q : Int) (t : ByteArray) : List ByteArray := if L.length = 6 then (if okR q t then L.set (q % 6).toNat (showRecB q t) else L) else []
def putB (L : List ByteArray) (q : Int) (t : ByteArray) : Bool := decide (L.length = 6) && okR q t
theorem putL_len (L : List ByteArray) (q : Int) (t : ByteArray) : L.length = 6 → (putL L q t).length = 6 := by
  intro h
  unfold putL
  rw [if_pos h]
  split
  · rw [List.length_set]; exact h
  · exact h
/-- What RingPut leaves. -/
def PutPost (w : World) (L : List ByteArray) (q : Int) (t : ByteArray) (e : Ending) (w' : World) : Prop :=
  ∃ B c, e = .returned (.tuple #[.slice B (putL L q t).length c, .bool (putB L q t)]) ∧ w'.ownsRow w.heap.size 9 1 (.slice B (putL L q t).length c) (putL L q t).length (SS (putL L q t)) ∧ Below w.heap.size w w'
theorem putPost_mk {w w' : World} {L M : List ByteArray} {q : Int} {t : ByteArray} {b : Bool} {B : Option Addr} {m c : Nat} (h1 : putL L q t = M) (h2 : putB L q t = b) (h3 : m = M.length) {v : Value} (hv : v = .tuple #[.slice B m c, .bool b])
    (ho : w'.ownsRow w.heap.size 9 1 (.slice B m c) m (SS M)) (hb : Below w.heap.size w w') : PutPost w L q t (.returned v) w' := by
  subst h1 h2 h3 hv
  exact ⟨B, c, rfl, ho, hb⟩

set_option maxRecDepth 100000 in
set_option maxHeartbeats 4000000 in
theorem ringPut_impl (A : Option Addr) (n c : Nat) (L : List ByteArray) (hn : n ≤ 10000000) (hl : L.length = n) (q : Int) (t : ByteArray) (ht : t.size ≤ 1000000) (w : World) (hr : Reads w w.heap.size 1 A n (SS L)) :
    Calls Try.prog 6 #[.slice A n c, .agg #[.int .i64 q, .string t]] w fun e w' => PutPost w L q t e w' := by
  have Hr := Lib.hid hr
  clear hr
  by_cases h6 : n = 6
  · subst h6
    have R1 := Blk.new' w 26 #[.int .i64 q, .string t] w.heap.size rfl
    go_enter Try.func6, Try.ntmps6
    go_wp2_with fail
    refine (copyTexts_impl A 6 c L (by omega) _ ((Hr.out.below (belA (bel0 w) _)).more (by simp))).mono ?_
    rintro e w1 ⟨v, rfl, own, hb1⟩
    obtain ⟨g, cc, rfl⟩ := own_form1 own (by omega)
    have R2 := R1.below hb1 R1.lt
    have B1 := belN (belA (bel0 w) (.cells #[.int .i64 q, .string t] 26)) hb1
    have own := own_more own (show w.heap.size ≤ _ from (belA (bel0 w) (.cells #[.int .i64 q, .string t] 26)).size)
    have x0 := R2.get (x := .int .i64 q) 0 rfl
    have x1 := R2.get (x := .string t) 1 rfl
    have lx := R2.lt
    have Own := Lib.hid own
    clear own hb1
    go_wp2_with fail
    clear x0 x1 lx
    refine (showRec_impl q t w1 (by omega)).mono ?_
    rintro e w2 ⟨rfl, hb2⟩
    have R3 := R2.below hb2 R2.lt
    have B2 := belN B1 hb2
    have Own2 := Lib.hid (own_below Own.out hb2 (Nat.le_refl _))
    clear Own hb2 R1 R2
    cases hk : okR q t
    · have e0 := show_no hk
      rw [e0]
      have h1 : putL L q t = L := by unfold putL; rw [if_pos hl, if_neg (by rw [hk]; simp)]
      have h2 : putB L q t = false := by unfold putB; rw [hk, Bool.and_false]
      have H1 := Lib.hid h1
      have H2 := Lib.hid h2
      clear h1 h2 e0
      go_wp2
      refine bodyPost_ret (v := .tuple #[.slice (some ⟨g, 0, none⟩) 6 cc, .bool false]) (by simp [results, Try.results6, go_sem]) rfl (putPost_mk H1.out H2.out hl.symm rfl Own2.out B2)
    · have e0 := show_yes hk
      have e1 : (showRecB q t).size ≠ 0 := by rw [e0, sumB_size]; omega
      have hkk := hk
      unfold okR at hkk
      rw [Bool.and_eq_true] at hkk
      obtain ⟨q0, q1⟩ := inI_true.1 hkk.1
      clear hkk
      have h1 : putL L q t = L.set (q % 6).toNat (showRecB q t) := by unfold putL; rw [if_pos hl, if_pos hk]
      have h2 : putB L q t = true := by unfold putB; rw [hk, decide_eq_true hl]; rfl
      obtain ⟨T, hT⟩ : ∃ T, showRecB q t = T := ⟨_, rfl⟩
      rw [hT] at e1 h1
      rw [hT]
      clear hT e0
      obtain ⟨t1, t2, t3⟩ := ne_tests e1
      obtain ⟨k, hk6⟩ : ∃ k : Nat, q % 6 = (k : Int) := ⟨(q % 6).toNat, by omega⟩
      have k6 : k < 6 := by omega
      have hkt : (q % 6).toNat = k := by omega
      rw [hkt] at h1
      have H1 := Lib.hid h1
      have H2 := Lib.hid h2
      have y0 := R3.get (x := .int .i64 q) 0 rfl
      have ly := R3.lt
      obtain ⟨u, hu⟩ := own_cell1 Own2.out k k6
      have hf := own_frozen Own2.out k
      have mt : q.tmod 6 = (k : Int) := by rw [Int.tmod_eq_emod_of_nonneg (by omega)]; exact hk6
      have m0 : (0 : Int) ≤ (k : Int) := by omega
      have m1 : (k : Int) < 6 := by omega
      clear h1 h2 e1
      have hgb := (own_some Own2.out).1
      go_wp2
      refine bodyPost_ret (v := .tuple #[.slice (some ⟨g, 0, none⟩) 6 cc, .bool true]) (by simp [results, Try.results6, go_sem]) rfl (putPost_mk H1.out H2.out (by rw [List.length_set]; exact hl.symm) rfl (own_put Own2.out k T) (B2.setCell (p := ⟨g, k, none⟩) hgb _))
  · have hz : ((n : Int) == 6) = false := by simp; omega
    have h1 : putL L q t = [] := by unfold putL; rw [if_neg (by omega)]
    have h2 : putB L q t = false := by unfold putB; rw [show decide (L.length = 6) = false by simp; omega]; rfl
    have H1 := Lib.hid h1
    have H2 := Lib.hid h2
    go_enter Try.func6, Try.ntmps6
    go_wp2
    refine bodyPost_ret (v := .tuple #[.slice none 0 0, .bool false]) (by simp [results, Try.results6, go_sem]) rfl (putPost_mk H1.out H2.out rfl rfl (own_nilC _ _ _ _) (belA (bel0 w) _))

set_option maxRecDepth 100000 in
set_option maxHeartbeats 4000000 in
theorem ringPut_spec (A : Option Addr) (n c : Nat) (L : List ByteArray) (hn : n ≤ 10000000) (hl : L.length = n) (q : Int) (t : ByteArray) (ht : t.size ≤ 1000000) (w : World) (hr : Reads w w.heap.size 1 A n (SS L)) :
    Calls Try.prog 7 #[.slice A n c, .agg #[.int .i64 q, .string t]] w fun e w' => PutPost w L q t e w' := by
  have Hr := Lib.hid hr
  clear hr
  by_cases h6 : n = 6
  · subst h6
    have R1 := Blk.new' w 26 #[.int .i64 q, .string t] w.heap.size rfl
    go_enter Try.func7, Try.ntmps7
    have L0 := World.ownsRow_lit (e := 9) (size := 1) (w.alloc (.cells #[.int .i64 q, .string t] 26)) #[] 0 (Nat.le_refl _) (by unfold maxLen; omega) rfl
    rw [show (w.alloc (.cells #[.int .i64 q, .string t] 26)).heap.size = w.heap.size + 1 by simp] at L0
    have L1 := Lib.hid L0
    have R1' := R1.alloc (.cells #[] 9)
    have hbb := belA (belA (bel0 w) (.cells #[.int .i64 q, .string t] 26)) (.cells #[] 9)
    have Hr' := Lib.hid ((Hr.out.below hbb).more hbb.size)
    clear L0
    go_wp2_with (at_builtin; refine wpList_app _ rfl _ _ _ rfl Try.el_str L1.out rfl Hr'.out rfl (SS_cells _) (by unfold maxLen; omega) (by omega) (by simp <;> omega) ?_; intro v w1 own _ _ hb1; rw [Nat.zero_add, List.nil_append] at own; obtain ⟨g, cc, rfl⟩ := own_form1 own (by omega); have R2 := R1'.below hb1 (by omega); have B1 := hbb.trans (hb1.mono (by omega)); replace own := own_more own (show w.heap.size ≤ w.heap.size + 1 by omega); have Own := Lib.hid own; clear own hb1; have x0 := R2.get (x := .int .i64 q) 0 rfl; have x1 := R2.get (x := .string t) 1 rfl; have lx := R2.lt)
    clear x0 x1 lx
    refine (showRec_spec q t w1 (by omega)).mono ?_
    rintro e w2 ⟨rfl, hb2⟩
    have R3 := R2.below hb2 R2.lt
    have B2 := belN B1 hb2
    have Own2 := Lib.hid (own_below Own.out hb2 (Nat.le_refl _))
    clear Own hb2 R1 R1' R2
    cases hk : okR q t
    · have e0 := show_no hk
      rw [e0]
      have h1 : putL L q t = L := by unfold putL; rw [if_pos hl, if_neg (by rw [hk]; simp)]
      have h2 : putB L q t = false := by unfold putB; rw [hk, Bool.and_false]
      have H1 := Lib.hid h1
      have H2 := Lib.hid h2
      clear h1 h2 e0
      go_wp2
      refine bodyPost_ret (v := .tuple #[.slice (some ⟨g, 0, none⟩) 6 cc, .bool false]) (by simp [results, Try.results7, go_sem]) rfl (putPost_mk H1.out H2.out hl.symm rfl Own2.out B2)
    · have e0 := show_yes hk
      have e1 : (showRecB q t).size ≠ 0 := by rw [e0, sumB_size]; omega
      have hkk := hk
      unfold okR at hkk
      rw [Bool.and_eq_true] at hkk
      obtain ⟨q0, q1⟩ := inI_true.1 hkk.1
      clear hkk
      have h1 : putL L q t = L.set (q % 6).toNat (showRecB q t) := by unfold putL; rw [if_pos hl, if_pos hk]
      have h2 : putB L q t = true := by unfold putB; rw [hk, decide_eq_true hl]; rfl
      obtain ⟨T, hT⟩ : ∃ T, showRecB q t = T := ⟨_, rfl⟩
      rw [hT] at e1 h1
      rw [hT]
      clear hT e0
      obtain ⟨t1, t2, t3⟩ := ne_tests e1
      obtain ⟨k, hk6⟩ : ∃ k : Nat, q % 6 = (k : Int) := ⟨(q % 6).toNat, by omega⟩
      have k6 : k < 6 := by omega
      have hkt : (q % 6).toNat = k := by omega
      rw [hkt] at h1
      have H1 := Lib.hid h1
      have H2 := Lib.hid h2
      have y0 := R3.get (x := .int .i64 q) 0 rfl
      have ly := R3.lt
      obtain ⟨u, hu⟩ := own_cell1 Own2.out k k6
      have hf := own_frozen Own2.out k
      have mt : q.tmod 6 = (k : Int) := by rw [Int.tmod_eq_emod_of_nonneg (by omega)]; exact hk6
      have m0 : (0 : Int) ≤ (k : Int) := by omega
      have m1 : (k : Int) < 6 := by omega
      clear h1 h2 e1
      have hgb := (own_some Own2.out).1
      go_wp2
      refine bodyPost_ret (v := .tuple #[.slice (some ⟨g, 0, none⟩) 6 cc, .bool true]) (by simp [results, Try.results7, go_sem]) rfl (putPost_mk H1.out H2.out (by rw [List.length_set]; exact hl.symm) rfl (own_put Own2.out k T) (B2.setCell (p := ⟨g, k, none⟩) hgb _))
  · have hz : ((n : Int) == 6) = false := by simp; omega
    have h1 : putL L q t = [] := by unfold putL; rw [if_neg (by omega)]
    have h2 : putB L q t = false := by unfold putB; rw [show decide (L.length = 6) = false by simp; omega]; rfl
    have H1 := Lib.hid h1
    have H2 := Lib.hid h2
    have L0 := World.ownsRow_lit (e := 9) (size := 1) (w.alloc (.cells #[.int .i64 q, .string t] 26)) #[] 0 (Nat.le_refl _) (by unfold maxLen; omega) rfl
    rw [show (w.alloc (.cells #[.int .i64 q, .string t] 26)).heap.size = w.heap.size + 1 by simp] at L0
    have L1 := Lib.hid L0
    clear L0
    go_enter Try.func7, Try.ntmps7
    go_wp2
    refine bodyPost_ret (v := .tuple #[.slice (some ⟨w.heap.size + 1, 0, none⟩) 0 0, .bool false]) (by simp [results, Try.results7, go_sem]) rfl (putPost_mk H1.out H2.out rfl rfl (own_more L1.out (by omega)) (belA (belA (bel0 w) _) _))

end Go.Proofs.Ytgbgfgkgkbnflaa
