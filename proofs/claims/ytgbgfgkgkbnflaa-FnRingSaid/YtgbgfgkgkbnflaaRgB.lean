/- The newest records of a ring, in both packages. -/
import Derived.Test.YtgbgfgkgkbnflaaStrRows
import Derived.Test.YtgbgfgkgkbnflaaRgA
import Derived.Test.YtgbgfgkgkbnflaaStrs
namespace Go.Proofs.Ytgbgfgkgkbnflaa
open Go Go.RowKit

/-- Records as cells. -/
def RS (l : List (Int × ByteArray)) : List Value := l.flatMap fun r => [.int .i64 r.1, .string r.2]
theorem RS_cons (e : Int × ByteArray) (l : List (Int × ByteArray)) : RS (e :: l) = .int .i64 e.1 :: .string e.2 :: RS l := rfl
theorem RS_append (a b : List (Int × ByteArray)) : RS (a ++ b) = RS a ++ RS b := by simp [RS]
theorem RS_length (l : List (Int × ByteArray)) : (RS l).length = l.length * 2 := by
  induction l with
  | nil => rfl
  | cons e l ih => rw [RS_cons]; simp [ih]; omega
theorem RS_get : ∀ (l : List (Int × ByteArray)) (k : Nat) (h : k < l.length), (RS l)[k * 2]? = some (.int .i64 l[k].1) ∧ (RS l)[k * 2 + 1]? = some (.string l[k].2)
  | e :: l, 0, _ => ⟨rfl, rfl⟩
  | e :: l, k + 1, h => by
    have := RS_get l k (by simpa using h)
    rw [RS_cons, show (k + 1) * 2 = k * 2 + 1 + 1 by omega]
    simpa using this
theorem RS_cells (l : List (Int × ByteArray)) : ∀ u ∈ RS l, u.oneCell' = true := by
  induction l with
  | nil => intro u hu; cases hu
  | cons e l ih =>
    intro u hu
    rw [RS_cons] at hu
    simp only [List.mem_cons] at hu
    rcases hu with rfl | rfl | hu
    · rfl
    · rfl
    · exact ih u hu
theorem cell_flat {w : World} {ad : Addr} {v : Value} (h : w.cell? ad = some v) : ∃ b o, ad = ⟨b, o, none⟩ := by
  obtain ⟨b, o, sp⟩ := ad
  cases sp with
  | none => exact ⟨b, o, rfl⟩
  | some x =>
    simp only [World.cell?] at h
    split at h <;> simp at h
theorem reads_strF {w : World} {B n : Nat} {A : Option Addr} {xs : List ByteArray} (h : Reads w B 1 A n (SS xs)) {k : Nat} (hk : k < n) :
    ∃ (hk' : k < xs.length) (b o : Nat), A = some ⟨b, o, none⟩ ∧ b < B ∧ w.cell? ⟨b, o + k, none⟩ = some (.string xs[k]) := by
  obtain ⟨hk', ad, rfl, hb, hc⟩ := reads_str h hk
  obtain ⟨_, ad0, e0, _, hc0⟩ := reads_str h (k := 0) (by omega)
  injection e0 with e0
  subst e0
  have ha0 : ad.add 0 = ad := by simp [Addr.add]
  rw [ha0] at hc0
  obtain ⟨b, o, rfl⟩ := cell_flat hc0
  have ha : ∀ j, (Addr.add ⟨b, o, none⟩ j) = ⟨b, o + j, none⟩ := fun j => by unfold Addr.add; split <;> simp_all
  rw [ha] at hc
  exact ⟨hk', b, o, rfl, hb, hc⟩
theorem reads_rec {w : World} {B n : Nat} {A : Option Addr} {xs : List (Int × ByteArray)} (h : Reads w B 2 A n (RS xs)) {k : Nat} (hk : k < n) :
    ∃ (hk' : k < xs.length) (b o : Nat), A = some ⟨b, o, none⟩ ∧ b < B ∧ w.cell? ⟨b, o + k * 2, none⟩ = some (.int .i64 xs[k].1) ∧ w.cell? ⟨b, o + k * 2 + 1, none⟩ = some (.string xs[k].2) := by
  have hl : k < xs.length := by have := h.1; rw [RS_length] at this; omega
  obtain ⟨ad, rfl, hb, hc⟩ := h.2 (by omega)
  obtain ⟨h0, h1⟩ := RS_get xs k hl
  have z0 := hc _ _ h0
  have z1 := hc _ _ h1
  obtain ⟨h00, _⟩ := RS_get xs 0 (by omega)
  have z00 := hc 0 _ h00
  obtain ⟨b, o, hbo⟩ := cell_flat z00
  have hbo' : ad = ⟨b, o, none⟩ := by rw [← hbo]; simp [Addr.add]
  subst hbo'
  have ha : ∀ j, (Addr.add ⟨b, o, none⟩ j) = ⟨b, o + j, none⟩ := fun j => by unfold Addr.add; split <;> simp_all
  rw [ha] at z0 z1
  exact ⟨hl, b, o, rfl, hb, z0, by rw [show o + k * 2 + 1 = o + (k * 2 + 1) by omega]; exact z1⟩

/-- So many marked records from a number on. -/
def markR (k : Int) : Int × ByteArray := (k, markB (k + 1))
def marksR (k : Int) (n : Nat) : List (Int × ByteArray) := (List.range n).map fun (j : Nat) => markR (k + 2 * (j : Int))
theorem marksR_len (k : Int) (n : Nat) : (marksR k n).length = n := by simp [marksR]
theorem marksR_get (k : Int) (n j : Nat) (h : j < n) : (marksR k n)[j]'(by rw [marksR_len]; exact h) = markR (k + 2 * (j : Int)) := by simp [marksR]
theorem marksR_succ (k : Int) (n : Nat) : marksR k (n + 1) = marksR k n ++ [markR (k + 2 * (n : Int))] := by simp [marksR, List.range_succ]

theorem RS_set2 {n k : Nat} (l : List (Int × ByteArray)) (xs : List Value) (x : Int × ByteArray) (hk : l.length = k) (hx : k < n) (hxs : xs.length = n * 2) :
    ((RS l ++ xs.drop (k * 2)).set (k * 2) (.int .i64 x.1)).set (k * 2 + 1) (.string x.2) = RS (l ++ [x]) ++ xs.drop ((k + 1) * 2) := by
  subst hk
  obtain ⟨a, b, r, hr⟩ : ∃ a b r, xs.drop (l.length * 2) = a :: b :: r := by
    have : 2 ≤ (xs.drop (l.length * 2)).length := by rw [List.length_drop]; omega
    match hh : xs.drop (l.length * 2), this with
    | a :: b :: r, _ => exact ⟨a, b, r, rfl⟩
  have hd : xs.drop ((l.length + 1) * 2) = r := by
    rw [show (l.length + 1) * 2 = l.length * 2 + 2 by omega, ← List.drop_drop, hr]; rfl
  rw [hd, hr, RS_append, show RS [x] = [.int .i64 x.1, .string x.2] from rfl]
  have hz : l.length * 2 = (RS l).length := (RS_length l).symm
  rw [hz]
  simp
theorem own_cells2 {w : World} {base : Nat} {e : TypeId} {n g c : Nat} {xs : List Value} (h : w.ownsRow base e 2 (.slice (some ⟨g, 0, none⟩) n c) n xs) (k : Nat) (hk : k < n) :
    (∃ u, w.cell? ⟨g, k * 2, none⟩ = some u) ∧ (∃ u, w.cell? ⟨g, k * 2 + 1, none⟩ = some u) := by
  have hl := h.1
  have f : ∀ i, i < n * 2 → ∃ u, w.cell? ⟨g, i, none⟩ = some u := fun i hi => ⟨xs[i]'(by omega), by rw [h.cellAt i (by omega)]; exact List.getElem?_eq_getElem (by omega)⟩
  exact ⟨f _ (by omega), f _ (by omega)⟩

/-- The text in the place of a number. -/
def at6 (L : List ByteArray) (q : Int) : ByteArray := L.getD (q % 6).toNat ⟨#[]⟩
/-- The record with a number stands in its place. -/
def recAtB (L : List ByteArray) (q : Int) : Bool := decide (1 ≤ q) && ((recP (at6 L q)).2.2 && decide ((recP (at6 L q)).1 = q))
def txtAt (L : List ByteArray) (q : Int) : ByteArray := (recP (at6 L q)).2.1
theorem recP_bd (s : ByteArray) : 0 ≤ (recP s).1 ∧ (recP s).1 ≤ 562949953421312 := by
  unfold recP
  rcases h : recOf s with _ | ⟨q, t⟩
  · simp
  · unfold recOf at h
    split at h
    · rename_i q' p hv
      split at h
      · simp only [Option.some.injEq, Prod.mk.injEq] at h
        obtain ⟨rfl, _⟩ := h
        have := (varsAt_bd _ _ _ _ _ hv).2.1 q' (by simp)
        simp only; omega
      · cases h
    · cases h
/-- The greatest number of the first so many that stand in their places. -/
def topN (L : List ByteArray) : Nat → Int
  | 0 => 0
  | i + 1 => cond ((recP (L.getD i ⟨#[]⟩)).2.2 && decide ((recP (L.getD i ⟨#[]⟩)).1 % 6 = i)) (max (topN L i) (recP (L.getD i ⟨#[]⟩)).1) (topN L i)
theorem topN_bd (L : List ByteArray) : ∀ i, 0 ≤ topN L i ∧ topN L i ≤ 562949953421312
  | 0 => by simp [topN]
  | i + 1 => by
    have h1 := topN_bd L i
    have h2 := recP_bd (L.getD i ⟨#[]⟩)
    rw [topN]
    generalize (recP (L.getD i ⟨#[]⟩)).1 = a at h2 ⊢
    cases ((recP (L.getD i ⟨#[]⟩)).2.2 && decide (a % 6 = i)) <;> simp <;> omega
/-- From a number down, as long as they stand in their places. -/
def downF (L : List ByteArray) : Nat → Int → List (Int × ByteArray) → List (Int × ByteArray)
  | 0, _, acc => acc
  | k + 1, q, acc => cond (recAtB L q) (downF L k (q - 1) ((q, txtAt L q) :: acc)) acc
theorem downF_yes {L : List ByteArray} {k : Nat} {q : Int} {acc : List (Int × ByteArray)} (h : recAtB L q = true) : downF L (k + 1) q acc = downF L k (q - 1) ((q, txtAt L q) :: acc) := by rw [downF, h]; rfl
theorem downF_no {L : List ByteArray} {k : Nat} {q : Int} {acc : List (Int × ByteArray)} (h : recAtB L q = false) : downF L k q acc = acc := by
  cases k with
  | zero => rfl
  | succ k => rw [downF, h]; rfl
/-- Six below there is another one in the place. -/
theorem recAt_six {L : List ByteArray} {q : Int} (h : recAtB L q = true) : recAtB L (q - 6) = false := by
  unfold recAtB at h ⊢
  rw [Bool.and_eq_true, Bool.and_eq_true, decide_eq_true_eq, decide_eq_true_eq] at h
  have e : at6 L (q - 6) = at6 L q := by unfold at6; rw [show (q - 6) % 6 = q % 6 by omega]
  rw [e, Bool.and_eq_false_iff, Bool.and_eq_false_iff]
  refine .inr (.inr ?_)
  rw [decide_eq_false_iff_not]; omega
noncomputable def ringL (L : List ByteArray) : List (Int × ByteArray) := if L.length = 6 then downF L 6 (topN L 6) [] else []
theorem downF_len (L : List ByteArray) : ∀ (k : Nat) (q : Int) (acc : List (Int × ByteArray)), (downF L k q acc).length ≤ acc.length + k
  | 0, _, acc => by simp [downF]
  | k + 1, q, acc => by
    rw [downF]
    cases recAtB L q
    · simp
    · have := downF_len L k (q - 1) ((q, txtAt L q) :: acc)
      simp at this ⊢; omega
theorem ringL_len (L : List ByteArray) : (ringL L).length ≤ 6 := by
  unfold ringL
  split
  · have := downF_len L 6 (topN L 6) []; simpa using this
  · simp
theorem getD_at (L : List ByteArray) (k : Nat) (h : k < L.length) : L.getD k ⟨#[]⟩ = L[k] := by simp [List.getD, h]
theorem at6_get {L : List ByteArray} (h : L.length = 6) (q : Int) : ∃ (k : Nat) (hk : k < L.length), q % 6 = (k : Int) ∧ at6 L q = L[k] := by
  have h1 : (q % 6).toNat < L.length := by omega
  exact ⟨(q % 6).toNat, h1, by omega, by unfold at6; rw [getD_at L _ h1]⟩
/-- What recAt leaves. -/
def RecAtPost (L : List ByteArray) (q : Int) (e : Ending) : Prop :=
  (recAtB L q = true ∧ e = .returned (.tuple #[.agg #[.int .i64 q, .string (txtAt L q)], .bool true])) ∨ (recAtB L q = false ∧ ∃ r t, e = .returned (.tuple #[.agg #[.int .i64 r, .string t], .bool false]) ∧ t.size ≤ (txtAt L q).size)

theorem recAt_no {L : List ByteArray} {q : Int} (h : recAtB L q = false) (r : Int) (t : ByteArray) (hz : t.size ≤ (txtAt L q).size) {v : Value} (hv : v = .tuple #[.agg #[.int .i64 r, .string t], .bool false]) : RecAtPost L q (.returned v) := .inr ⟨h, r, t, by rw [hv], hz⟩
theorem recAt_yes {L : List ByteArray} {q r : Int} {t : ByteArray} (h : recAtB L q = true) (hr : r = q) (ht : t = txtAt L q) {v : Value} (hv : v = .tuple #[.agg #[.int .i64 r, .string t], .bool true]) : RecAtPost L q (.returned v) := .inl ⟨h, by rw [hv, hr, ht]⟩

set_option maxRecDepth 100000 in
set_option maxHeartbeats 2000000 in
theorem recAt_impl (A : Option Addr) (c : Nat) (L : List ByteArray) (q : Int) (hL : L.length = 6) (hq : q ≤ 1000000000000000) (hs : ∀ s ∈ L, s.size ≤ 1000000000) (w : World) (hr : Reads w w.heap.size 1 A 6 (SS L)) :
    Calls Try.prog 29 #[.slice A 6 c, .int .i64 q] w fun e w' => RecAtPost L q e ∧ Below w.heap.size w w' := by
  have Hr := Lib.hid hr
  have Hs := Lib.hid hs
  clear hr hs
  by_cases h1 : q < 1
  · have Hno := Lib.hid (show recAtB L q = false by unfold recAtB; simp; omega)
    go_enter Try.func29, Try.ntmps29
    go_wp2
    refine bodyPost_ret (v := .tuple #[.agg #[.int .i64 0, .string ⟨#[]⟩], .bool false]) (by simp [results, Try.results29, go_sem]) rfl ⟨recAt_no Hno.out _ _ (by first | exact Nat.zero_le _ | (unfold txtAt; rw [Hp.out]; exact Nat.le_refl _)) rfl, belA (bel0 w) _⟩
  · obtain ⟨k, hk, hmod, hat⟩ := at6_get hL q
    have hk6 : k < 6 := by omega
    obtain ⟨_, bb, oo, rfl, hadb, hcell⟩ := reads_strF Hr.out hk6
    have hsz := Hs.out _ (List.getElem_mem hk)
    rw [← hat] at hcell hsz
    have Hat := Lib.hid hat
    clear hat
    have m0 : (0 : Int) ≤ q % 6 := by omega
    have m1 : q % 6 < 6 := by omega
    have m2 : (q % 6).toNat = k := by omega
    have Hbd := Lib.hid (recP_bd (at6 L q))
    obtain ⟨r, t, b, hp⟩ : ∃ r t b, recP (at6 L q) = (r, t, b) := ⟨_, _, _, rfl⟩
    have Hp := Lib.hid hp
    clear hp hmod
    go_enter Try.func29, Try.ntmps29
    go_wp2_with fail
    refine (readRec_impl (at6 L q) hsz _).mono ?_
    rintro e w1 ⟨rfl, hb1⟩
    rw [Hp.out]
    simp only
    have hR := (Blk.new' w 26 #[.int .i64 0, .string ⟨#[]⟩] w.heap.size).below hb1 (by simp)
    have b1 := belN (belA (bel0 w) _) hb1
    have hlt := hR.lt
    have k2 := hR.frozen 0
    have k3 := hR.frozen 1
    have r30 := hR.c0
    have r31 := hR.c1
    have ne : w.heap.size ≠ w1.heap.size := by omega
    have ne' : w1.heap.size ≠ w.heap.size := by omega
    clear hcell m0 m1 m2
    cases b
    · have Hno := Lib.hid (show recAtB L q = false by unfold recAtB; rw [Hp.out]; simp)
      go_wp2_with fail
      go_region
      all_goals
        go_wp2
        refine bodyPost_ret (v := .tuple #[.agg #[.int .i64 r, .string t], .bool false]) (by simp [results, Try.results29, go_sem, hlt, r30, r31]) rfl ⟨recAt_no Hno.out _ _ (by first | exact Nat.zero_le _ | (unfold txtAt; rw [Hp.out]; exact Nat.le_refl _)) rfl, ?_⟩
        repeat (first | exact b1 | apply Below.drew | refine belA ?_ _ | refine belC ?_ _ _ (by omega) _)
    · by_cases he : r = q
      · have Hyes := Lib.hid (show recAtB L q = true by unfold recAtB; rw [Hp.out]; simp [he]; omega)
        have Ht := Lib.hid (show t = txtAt L q by unfold txtAt; rw [Hp.out])
        have He := Lib.hid he
        have he' : (r == q) = true := by simpa using he
        clear he
        go_wp2_with fail
        go_region
        all_goals
          go_wp2
          refine bodyPost_ret (v := .tuple #[.agg #[.int .i64 r, .string t], .bool true]) (by simp [results, Try.results29, go_sem, hlt, r30, r31]) rfl ⟨recAt_yes Hyes.out He.out Ht.out rfl, ?_⟩
          repeat (first | exact b1 | apply Below.drew | refine belA ?_ _ | refine belC ?_ _ _ (by omega) _)
      · have Hno := Lib.hid (show recAtB L q = false by unfold recAtB; rw [Hp.out]; simp [he])
        have he' : (r == q) = false := by simpa using he
        clear he
        go_wp2_with fail
        go_region
        all_goals
          go_wp2
          refine bodyPost_ret (v := .tuple #[.agg #[.int .i64 r, .string t], .bool false]) (by simp [results, Try.results29, go_sem, hlt, r30, r31]) rfl ⟨recAt_no Hno.out _ _ (by first | exact Nat.zero_le _ | (unfold txtAt; rw [Hp.out]; exact Nat.le_refl _)) rfl, ?_⟩
          repeat (first | exact b1 | apply Below.drew | refine belA ?_ _ | refine belC ?_ _ _ (by omega) _)

set_option maxRecDepth 100000 in
set_option maxHeartbeats 2000000 in
theorem l24At_any (A : Option Addr) (c : Nat) (L : List ByteArray) (q : Int) (hL : L.length = 6) (hq : q ≤ 1000000000000000) (hs : ∀ s ∈ L, s.size ≤ 1000000000) (w : World) (hr : Reads w w.heap.size 1 A 6 (SS L)) :
    Calls Try.prog 30 #[.slice A 6 c, .int .i64 q] w fun e w' => RecAtPost L q e ∧ Below w.heap.size w w' := by
  have Hr := Lib.hid hr
  have Hs := Lib.hid hs
  clear hr hs
  by_cases h1 : q < 1
  · have Hno := Lib.hid (show recAtB L q = false by unfold recAtB; simp; omega)
    go_enter Try.func30, Try.ntmps30
    go_wp2
    refine bodyPost_ret (v := .tuple #[.agg #[.int .i64 0, .string ⟨#[]⟩], .bool false]) (by simp [results, Try.results30, go_sem]) rfl ⟨recAt_no Hno.out _ _ (by first | exact Nat.zero_le _ | (unfold txtAt; rw [Hp.out]; exact Nat.le_refl _)) rfl, belA (bel0 w) _⟩
  · obtain ⟨k, hk, hmod, hat⟩ := at6_get hL q
    have hk6 : k < 6 := by omega
    obtain ⟨_, bb, oo, rfl, hadb, hcell⟩ := reads_strF Hr.out hk6
    have hsz := Hs.out _ (List.getElem_mem hk)
    rw [← hat] at hcell hsz
    have Hat := Lib.hid hat
    clear hat
    have m0 : (0 : Int) ≤ q % 6 := by omega
    have m1 : q % 6 < 6 := by omega
    have m2 : (q % 6).toNat = k := by omega
    have Hbd := Lib.hid (recP_bd (at6 L q))
    obtain ⟨r, t, b, hp⟩ : ∃ r t b, recP (at6 L q) = (r, t, b) := ⟨_, _, _, rfl⟩
    have Hp := Lib.hid hp
    clear hp hmod
    have hbr : b = true → ∃ x : Bool, ((r == q) = x ∧ (r != q) = !x) ∧ recAtB L q = x := by
      rintro rfl
      refine ⟨r == q, ⟨rfl, rfl⟩, ?_⟩
      unfold recAtB; rw [Hp.out]
      have : decide (1 ≤ q) = true := by simp; omega
      simp [this]; rfl
    go_enter Try.func30, Try.ntmps30
    go_wp2_with fail
    refine (readRec_spec (at6 L q) hsz _).mono ?_
    rintro e w1 ⟨rfl, hb1⟩
    rw [Hp.out]
    simp only
    have hR := (Blk.new' w 26 #[.int .i64 0, .string ⟨#[]⟩] w.heap.size).below hb1 (by simp)
    have b1 := belN (belA (bel0 w) _) hb1
    have hlt := hR.lt
    have k2 := hR.frozen 0
    have k3 := hR.frozen 1
    have r30 := hR.c0
    have r31 := hR.c1
    have ne : w.heap.size ≠ w1.heap.size := by omega
    have ne' : w1.heap.size ≠ w.heap.size := by omega
    clear hcell m0 m1 m2
    cases b
    · have Hno := Lib.hid (show recAtB L q = false by unfold recAtB; rw [Hp.out]; simp)
      clear hbr
      go_wp2
      refine bodyPost_ret (v := .tuple #[.agg #[.int .i64 0, .string ⟨#[]⟩], .bool false]) (by simp [results, Try.results30, go_sem, hlt, r30, r31]) rfl ⟨recAt_no Hno.out _ _ (by first | exact Nat.zero_le _ | (unfold txtAt; rw [Hp.out]; exact Nat.le_refl _)) rfl, ?_⟩
      repeat (first | exact b1 | apply Below.drew | refine belA ?_ _ | refine belC ?_ _ _ (by omega) _)
    · obtain ⟨x, ⟨hx1, hx2⟩, hx3⟩ := hbr rfl
      clear hbr
      cases x
      · have Hno := Lib.hid hx3
        clear hx3
        simp only [Bool.not_false] at hx2
        go_wp2
        refine bodyPost_ret (v := .tuple #[.agg #[.int .i64 0, .string ⟨#[]⟩], .bool false]) (by simp [results, Try.results30, go_sem, hlt, r30, r31]) rfl ⟨recAt_no Hno.out _ _ (by first | exact Nat.zero_le _ | (unfold txtAt; rw [Hp.out]; exact Nat.le_refl _)) rfl, ?_⟩
        repeat (first | exact b1 | apply Below.drew | refine belA ?_ _ | refine belC ?_ _ _ (by omega) _)
      · have Hyes := Lib.hid hx3
        have He := Lib.hid (show r = q by simpa using hx1)
        have Ht := Lib.hid (show t = txtAt L q by unfold txtAt; rw [Hp.out])
        clear hx3
        simp only [Bool.not_true] at hx2
        go_wp2
        refine bodyPost_ret (v := .tuple #[.agg #[.int .i64 r, .string t], .bool true]) (by simp [results, Try.results30, go_sem, hlt, r30, r31]) rfl ⟨recAt_yes Hyes.out He.out Ht.out rfl, ?_⟩
        repeat (first | exact b1 | apply Below.drew | refine belA ?_ _ | refine belC ?_ _ _ (by omega) _)

theorem RecAtPost.yes {L : List ByteArray} {q : Int} {e : Ending} (h : RecAtPost L q e) (hy : recAtB L q = true) : e = .returned (.tuple #[.agg #[.int .i64 q, .string (txtAt L q)], .bool true]) := by
  rcases h with ⟨_, h⟩ | ⟨h, _⟩
  · exact h
  · rw [hy] at h; cases h
theorem RecAtPost.no {L : List ByteArray} {q : Int} {e : Ending} (h : RecAtPost L q e) (hy : recAtB L q = false) : ∃ r t, e = .returned (.tuple #[.agg #[.int .i64 r, .string t], .bool false]) := by
  rcases h with ⟨h, _⟩ | ⟨_, r, t, h, _⟩
  · rw [hy] at h; cases h
  · exact ⟨r, t, h⟩
theorem RecAtPost.no2 {L : List ByteArray} {q : Int} {e : Ending} (h : RecAtPost L q e) (hy : recAtB L q = false) : ∃ r t, e = .returned (.tuple #[.agg #[.int .i64 r, .string t], .bool false]) ∧ t.size ≤ (txtAt L q).size := by
  rcases h with ⟨h, _⟩ | ⟨_, h⟩
  · rw [hy] at h; cases h
  · exact h
theorem Try.el_rec : ElemOk Try.prog 35 26 (.agg #[.int .i64 0, .string ⟨#[]⟩]) 2 24 := ⟨Try.underlying35, by kernel_rfl, rfl, by omega⟩
theorem max_if (a b : Int) : max a b = if a < b then b else a := by split <;> omega
theorem RS_one (q : Int) (t : ByteArray) (acc : List (Int × ByteArray)) : [.int .i64 q, .string t] ++ RS acc = RS ((q, t) :: acc) := rfl

set_option maxRecDepth 100000 in
set_option maxHeartbeats 4000000 in
theorem ringRead_impl (A : Option Addr) (n c : Nat) (L : List ByteArray) (hn : n ≤ 10000000) (hs : ∀ s ∈ L, s.size ≤ 1000000000) (w : World) (hr : Reads w w.heap.size 1 A n (SS L)) :
    Calls Try.prog 12 #[.slice A n c] w fun e w' => ∃ v, e = .returned v ∧ w'.ownsRow w.heap.size 26 2 v (ringL L).length (RS (ringL L)) ∧ Below w.heap.size w w' := by
  have hl : L.length = n := by have := hr.1; rw [SS_length] at this; omega
  have Hr := Lib.hid hr
  have Hs := Lib.hid hs
  clear hr hs
  by_cases h6 : n = 6
  · subst h6
    have Hf := Lib.hid (show ringL L = downF L 6 (topN L 6) [] by unfold ringL; rw [if_pos hl])
    have Hl := Lib.hid hl
    go_enter Try.func12, Try.ntmps12
    go_wp2
    have Hown0 := Lib.hid (World.ownsRow_lit (e := 26) (size := 2) w #[] 0 (Nat.le_refl _) (by unfold maxLen; omega) rfl)
    have hbel0 := belA (bel0 w) (.cells #[] 26)
    go_loopw [4, 19] (fun v i wr => ∃ (k : Nat), k ≤ 6 ∧ i = .int .i64 k ∧ v = .int .i64 (topN L k) ∧ Below (w.alloc (.cells #[] 26)).heap.size (w.alloc (.cells #[] 26)) wr)
      (fun _ i _ => 6 - (intOf i).toNat)
    case atStart => exact ⟨0, by omega, rfl, rfl, bel0 _⟩
    case round =>
      obtain ⟨k, hk, rfl, rfl, hbel⟩ := hrel
      have hbd := topN_bd L k
      have hb := belN hbel0 hbel
      by_cases hlt : k < 6
      · obtain ⟨hkx, bb, oo, rfl, hadb, hcell⟩ := reads_strF (Hr.out.below hb) hlt
        have hsz := Hs.out _ (List.getElem_mem hkx)
        have q0 : (0 : Int) ≤ ↑k := by omega
        have q1 : (↑k : Int) < 6 := by omega
        obtain ⟨r, t, b, hp⟩ : ∃ r t b, recP L[k] = (r, t, b) := ⟨_, _, _, rfl⟩
        have hrb := recP_bd L[k]
        rw [hp] at hrb
        obtain ⟨hr0, hr1⟩ := hrb
        simp only at hr0 hr1
        have Hp := Lib.hid hp
        have Hst := Lib.hid (show topN L (k + 1) = cond (b && decide (r % 6 = (k : Int))) (max (topN L k) r) (topN L k) by rw [topN, getD_at L k hkx, hp])
        clear hp
        go_wp2_with fail
        refine (readRec_impl L[k] hsz _).mono ?_
        rintro e w1 ⟨rfl, hb1⟩
        rw [Hp.out]
        simp only
        clear hcell
        cases b
        · have Hst' := Lib.hid (show topN L (k + 1) = topN L k by rw [Hst.out]; rfl)
          go_wp2
          go_roundw
          case rel => exact ⟨k + 1, by omega, by go_num, by rw [Hst'.out], belA (belN hbel hb1) _⟩
          case measure => simp [intOf]; omega
        · by_cases hm : r % 6 = (k : Int)
          · have Hst' := Lib.hid (show topN L (k + 1) = max (topN L k) r by rw [Hst.out]; simp [hm])
            have hm' : (r % 6 == (k : Int)) = true := by simpa using hm
            clear hm
            go_wp2
            go_roundw
            case rel => exact ⟨k + 1, by omega, by go_num, by rw [Hst'.out, max_if], belA (belN hbel hb1) _⟩
            case measure => simp [intOf]; omega
          · have Hst' := Lib.hid (show topN L (k + 1) = topN L k by rw [Hst.out]; simp [hm])
            have hm' : (r % 6 == (k : Int)) = false := by simpa using hm
            clear hm
            go_wp2
            go_roundw
            case rel => exact ⟨k + 1, by omega, by go_num, by rw [Hst'.out], belA (belN hbel hb1) _⟩
            case measure => simp [intOf]; omega
      · obtain rfl : k = 6 := by omega
        have Hown1 := Lib.hid (own_below Hown0.out hbel (Nat.le_refl _))
        obtain ⟨T, hT⟩ : ∃ T, topN L 6 = T := ⟨_, rfl⟩
        have HT := Lib.hid hT
        rw [hT] at hbd ⊢
        clear hT
        go_wp2
        go_loopw [3, 9] (fun v i wr => ∃ (j : Nat) (q : Int) (acc : List (Int × ByteArray)), j ≤ 6 ∧ i = .int .i64 q ∧ Hid (q = T - j) ∧ Hid (acc.length = j) ∧ Hid (ringL L = downF L (6 - j) q acc) ∧ Hid (1 ≤ j → recAtB L T = true) ∧ wr.ownsRow w.heap.size 26 2 v j (RS acc) ∧ Below w.heap.size w wr)
          (fun _ i _ => (7 + intOf i - T).toNat)
        case atStart => exact ⟨0, T, [], by omega, rfl, by show _ = _; omega, rfl, by show _ = _; rw [Hf.out, HT.out], fun h => absurd h (by omega), Hown1.out, hb⟩
        case round =>
          obtain ⟨j, q, acc, hj, rfl, Hq, Hacc, hres, hfst, hown, hbel2⟩ := hrel
          have hsz2 := hbel2.size
          have hq := Hq.out
          have hq1 : q ≤ 562949953421312 := by omega
          have hq2 : -6 ≤ q := by omega
          have hq3 : q ≤ T := by omega
          have hq4 : T ≤ q + j := by omega
          clear hq
          rcases hat : recAtB L q with _ | _
          · have Hat := Lib.hid hat
            have Hend := Lib.hid (show ringL L = acc by rw [hres.out, downF_no hat])
            clear hat
            go_wp2_with fail
            refine (recAt_impl A c L q Hl.out (by omega) Hs.out _ ((Hr.out.below hbel2).more hsz2)).mono ?_
            rintro e w1 ⟨hpost, hb1⟩
            obtain ⟨r, t, rfl⟩ := hpost.no Hat.out
            have own1 := own_below hown hb1 (Nat.le_refl _)
            go_wp2
            go_ret
            exact ⟨_, rfl, by rw [Hend.out, Hacc.out]; exact own1.alloc _, belA (belN hbel2 hb1) _⟩
          · have Hat := Lib.hid hat
            have hj6 : j < 6 := by
              rcases Nat.lt_or_ge j 6 with h | h
              · exact h
              · exfalso
                have := recAt_six (hfst.out (by omega))
                rw [show T - 6 = q by have := Hq.out; omega, hat] at this
                cases this
            have Hnx := Lib.hid (show ringL L = downF L (6 - (j + 1)) (q - 1) ((q, txtAt L q) :: acc) by
              rw [hres.out, show 6 - j = (6 - (j + 1)) + 1 by omega, downF_yes hat])
            have Hfst := Lib.hid (show 1 ≤ j + 1 → recAtB L T = true by
              intro _
              rcases Nat.eq_zero_or_pos j with h0 | h0
              · rw [show T = q by have := Hq.out; omega]; exact hat
              · exact hfst.out h0)
            clear hat
            go_wp2_with fail
            refine (recAt_impl A c L q Hl.out (by omega) Hs.out _ ((Hr.out.below hbel2).more hsz2)).mono ?_
            rintro e w1 ⟨hpost, hb1⟩
            obtain rfl := hpost.yes Hat.out
            have own1 := own_below hown hb1 (Nat.le_refl _)
            obtain ⟨t, ht⟩ : ∃ t, txtAt L q = t := ⟨_, rfl⟩
            rw [ht] at Hnx ⊢
            clear ht
            obtain ⟨A1, c1, rfl, _, _, hread⟩ := own_vals own1
            have Hown1 := Lib.hid own1
            have hsz3 := hb1.size
            have hread2 := (hread.below (belA (belA (bel0 w1) (.cells #[.int .i64 q, .string t] 26)) (.cells #[.int .i64 q, .string t] 26)))
            clear own1 hown
            have litown := World.ownsRow_lit (e := 26) (size := 2) (w1.alloc (.cells #[.int .i64 q, .string t] 26)) #[.int .i64 q, .string t] 1 (Nat.le_refl _) (by unfold maxLen; omega) rfl
            rw [show (w1.alloc (.cells #[.int .i64 q, .string t] 26)).heap.size = w1.heap.size + 1 by simp] at litown
            go_wp2_with (at_builtin; go_must (refine wpList_app _ rfl _ _ _ rfl Try.el_rec litown rfl hread2 rfl (RS_cells _) (max_small (by omega)) (by omega) (by simp) ?_); intro v2 w2 own2 hg2 _ hb2)
            go_roundw
            case rel =>
              refine ⟨j + 1, q - 1, (q, t) :: acc, by omega, by go_num, by have := Hq.out; show _ = _; omega, by show _ = _; rw [List.length_cons, Hacc.out], Hnx.out, Hfst.out, ?_, ?_⟩
              · rw [Nat.add_comm j 1]; exact own_more own2 (by omega)
              · exact (belA (belA (belN hbel2 hb1) _) _).trans (hb2.mono (by omega))
            case measure => simp [intOf]; omega
  · have Hf := Lib.hid (show ringL L = [] by unfold ringL; rw [if_neg (by omega)])
    go_enter Try.func12, Try.ntmps12
    go_wp2
    go_ret
    exact ⟨_, rfl, by rw [Hf.out]; exact World.ownsRow_lit w #[] 0 (Nat.le_refl _) (by unfold maxLen; omega) rfl, belA (bel0 w) _⟩

theorem max_gt {a b : Int} (h : a < b) : max a b = b := by omega
theorem max_le' {a b : Int} (h : ¬ a < b) : max a b = a := by omega

set_option maxRecDepth 100000 in
set_option maxHeartbeats 4000000 in
theorem ringRead_spec (A : Option Addr) (n c : Nat) (L : List ByteArray) (hn : n ≤ 10000000) (hs : ∀ s ∈ L, s.size ≤ 1000000000) (w : World) (hr : Reads w w.heap.size 1 A n (SS L)) :
    Calls Try.prog 13 #[.slice A n c] w fun e w' => ∃ v, e = .returned v ∧ w'.ownsRow w.heap.size 26 2 v (ringL L).length (RS (ringL L)) ∧ Below w.heap.size w w' := by
  have hl : L.length = n := by have := hr.1; rw [SS_length] at this; omega
  have Hr := Lib.hid hr
  have Hs := Lib.hid hs
  clear hr hs
  by_cases h6 : n = 6
  · subst h6
    have Hf := Lib.hid (show ringL L = downF L 6 (topN L 6) [] by unfold ringL; rw [if_pos hl])
    have Hl := Lib.hid hl
    go_enter Try.func13, Try.ntmps13
    go_wp2
    have Hown0 := Lib.hid (World.ownsRow_lit (e := 26) (size := 2) w #[] 0 (Nat.le_refl _) (by unfold maxLen; omega) rfl)
    have hbel0 := belA (bel0 w) (.cells #[] 26)
    go_loopw [4, 5] (fun v i wr => ∃ (k : Nat), k ≤ 6 ∧ i = .int .i64 k ∧ v = .int .i64 (topN L k) ∧ Below (w.alloc (.cells #[] 26)).heap.size (w.alloc (.cells #[] 26)) wr)
      (fun _ i _ => 6 - (intOf i).toNat)
    case atStart => exact ⟨0, by omega, rfl, rfl, bel0 _⟩
    case round =>
      obtain ⟨k, hk, rfl, rfl, hbel⟩ := hrel
      have hbd := topN_bd L k
      have hb := belN hbel0 hbel
      by_cases hlt : k < 6
      · obtain ⟨hkx, bb, oo, rfl, hadb, hcell⟩ := reads_strF (Hr.out.below hb) hlt
        have hsz := Hs.out _ (List.getElem_mem hkx)
        have q0 : (0 : Int) ≤ ↑k := by omega
        have q1 : (↑k : Int) < 6 := by omega
        obtain ⟨r, t, b, hp⟩ : ∃ r t b, recP L[k] = (r, t, b) := ⟨_, _, _, rfl⟩
        have hrb := recP_bd L[k]
        rw [hp] at hrb
        obtain ⟨hr0, hr1⟩ := hrb
        simp only at hr0 hr1
        have Hp := Lib.hid hp
        have Hst := Lib.hid (show topN L (k + 1) = cond (b && decide (r % 6 = (k : Int))) (max (topN L k) r) (topN L k) by rw [topN, getD_at L k hkx, hp])
        clear hp
        go_wp2_with fail
        refine (readRec_spec L[k] hsz _).mono ?_
        rintro e w1 ⟨rfl, hb1⟩
        rw [Hp.out]
        simp only
        clear hcell
        cases b
        · have Hst' := Lib.hid (show topN L (k + 1) = topN L k by rw [Hst.out]; rfl)
          go_wp2
          go_roundw
          case rel => exact ⟨k + 1, by omega, by go_num, by rw [Hst'.out], belA (belN hbel hb1) _⟩
          case measure => simp [intOf]; omega
        · by_cases hm : r % 6 = (k : Int)
          · have Hst' := Lib.hid (show topN L (k + 1) = max (topN L k) r by rw [Hst.out]; simp [hm])
            have hm' : (r % 6 == (k : Int)) = true := by simpa using hm
            clear hm
            by_cases hgt : topN L k < r
            · have Hst2 := Lib.hid (Hst'.out.trans (max_gt hgt))
              go_wp2
              go_roundw
              case rel => exact ⟨k + 1, by omega, by go_num, by rw [Hst2.out], belA (belN hbel hb1) _⟩
              case measure => simp [intOf]; omega
            · have Hst2 := Lib.hid (Hst'.out.trans (max_le' hgt))
              go_wp2
              go_roundw
              case rel => exact ⟨k + 1, by omega, by go_num, by rw [Hst2.out], belA (belN hbel hb1) _⟩
              case measure => simp [intOf]; omega
          · have Hst' := Lib.hid (show topN L (k + 1) = topN L k by rw [Hst.out]; simp [hm])
            have hm' : (r % 6 == (k : Int)) = false := by simpa using hm
            clear hm
            go_wp2
            go_roundw
            case rel => exact ⟨k + 1, by omega, by go_num, by rw [Hst'.out], belA (belN hbel hb1) _⟩
            case measure => simp [intOf]; omega
      · obtain rfl : k = 6 := by omega
        have Hown1 := Lib.hid (own_below Hown0.out hbel (Nat.le_refl _))
        obtain ⟨T, hT⟩ : ∃ T, topN L 6 = T := ⟨_, rfl⟩
        have HT := Lib.hid hT
        rw [hT] at hbd ⊢
        clear hT
        go_wp2
        go_loopw [3, 8] (fun v i wr => ∃ (j : Nat) (acc : List (Int × ByteArray)), j ≤ 6 ∧ i = .int .i64 j ∧ Hid (acc.length = j) ∧ Hid (ringL L = downF L (6 - j) (T - j) acc) ∧ wr.ownsRow w.heap.size 26 2 v j (RS acc) ∧ Below w.heap.size w wr)
          (fun _ i _ => 6 - (intOf i).toNat)
        case atStart => exact ⟨0, [], by omega, rfl, rfl, by show _ = _; rw [Hf.out, HT.out]; simp, Hown1.out, hb⟩
        case round =>
          obtain ⟨j, acc, hj, rfl, Hacc, hres, hown, hbel2⟩ := hrel
          have hsz2 := hbel2.size
          by_cases hj6 : j < 6
          · rcases hat : recAtB L (T - j) with _ | _
            · have Hat := Lib.hid hat
              have Hend := Lib.hid (show ringL L = acc by rw [hres.out, downF_no hat])
              clear hat
              go_wp2_with fail
              refine (l24At_any A c L (T - j) Hl.out (by omega) Hs.out _ ((Hr.out.below hbel2).more hsz2)).mono ?_
              rintro e w1 ⟨hpost, hb1⟩
              obtain ⟨r, t, rfl⟩ := hpost.no Hat.out
              have own1 := own_below hown hb1 (Nat.le_refl _)
              go_wp2
              go_ret
              exact ⟨_, rfl, by rw [Hend.out, Hacc.out]; exact own1.alloc _, belA (belN hbel2 hb1) _⟩
            · have Hat := Lib.hid hat
              have Hnx := Lib.hid (show ringL L = downF L (6 - (j + 1)) (T - (j + 1 : Nat)) ((T - j, txtAt L (T - j)) :: acc) by
                rw [hres.out, show 6 - j = (6 - (j + 1)) + 1 by omega, downF_yes hat, show T - (j : Int) - 1 = T - (j + 1 : Nat) by omega])
              clear hat
              go_wp2_with fail
              refine (l24At_any A c L (T - j) Hl.out (by omega) Hs.out _ ((Hr.out.below hbel2).more hsz2)).mono ?_
              rintro e w1 ⟨hpost, hb1⟩
              obtain rfl := hpost.yes Hat.out
              have own1 := own_below hown hb1 (Nat.le_refl _)
              obtain ⟨t, ht⟩ : ∃ t, txtAt L (T - j) = t := ⟨_, rfl⟩
              obtain ⟨q, hq⟩ : ∃ q : Int, T - j = q := ⟨_, rfl⟩
              rw [ht, hq] at Hnx
              rw [ht, hq]
              clear ht hq
              obtain ⟨A1, c1, rfl, _, _, hread⟩ := own_vals own1
              have hsz3 := hb1.size
              have hread2 := (hread.below (belA (belA (bel0 w1) (.cells #[.int .i64 q, .string t] 26)) (.cells #[.int .i64 q, .string t] 26)))
              clear own1 hown
              have litown := World.ownsRow_lit (e := 26) (size := 2) (w1.alloc (.cells #[.int .i64 q, .string t] 26)) #[.int .i64 q, .string t] 1 (Nat.le_refl _) (by unfold maxLen; omega) rfl
              rw [show (w1.alloc (.cells #[.int .i64 q, .string t] 26)).heap.size = w1.heap.size + 1 by simp] at litown
              go_wp2_with (at_builtin; go_must (refine wpList_app _ rfl _ _ _ rfl Try.el_rec litown rfl hread2 rfl (RS_cells _) (max_small (by omega)) (by omega) (by simp) ?_); intro v2 w2 own2 hg2 _ hb2)
              go_roundw
              case rel =>
                refine ⟨j + 1, (q, t) :: acc, by omega, by go_num, by show _ = _; rw [List.length_cons, Hacc.out], Hnx.out, ?_, ?_⟩
                · rw [Nat.add_comm j 1]; exact own_more own2 (by omega)
                · exact (belA (belA (belN hbel2 hb1) _) _).trans (hb2.mono (by omega))
              case measure => simp [intOf]; omega
          · obtain rfl : j = 6 := by omega
            have Hend := Lib.hid (show ringL L = acc by rw [hres.out]; rfl)
            go_wp2
            go_ret
            exact ⟨_, rfl, by rw [Hend.out, Hacc.out]; exact hown, hbel2⟩
  · have Hf := Lib.hid (show ringL L = [] by unfold ringL; rw [if_neg (by omega)])
    go_enter Try.func13, Try.ntmps13
    go_wp2
    go_ret
    exact ⟨_, rfl, by rw [Hf.out]; exact World.ownsRow_lit w #[] 0 (Nat.le_refl _) (by unfold maxLen; omega) rfl, belA (bel0 w) _⟩

end Go.Proofs.Ytgbgfgkgkbnflaa
