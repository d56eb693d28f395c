/- Rows of extents and rows of bits: sizes, copies, marks. -/
import Derived.Test.YtajgenjfhcapjaaStrRows
import Derived.Test.YtajgenjfhcapjaaRegH
namespace Go.Proofs.Ytajgenjfhcapjaa
open Go Go.RowKit Go.WideShapes Go.ChangeShapes Go.Deep

structure ExtD where
  a : Int
  b : Int
  l : Int
def ExtD.val (e : ExtD) : Value := .agg #[.int .i64 e.a, .int .i64 e.b, .int .i64 e.l]
def ExtD.cells (e : ExtD) : List Value := [.int .i64 e.a, .int .i64 e.b, .int .i64 e.l]
/-- Extents as cells. -/
def XS (l : List ExtD) : List Value := l.flatMap ExtD.cells
theorem XS_cons (e : ExtD) (l : List ExtD) : XS (e :: l) = .int .i64 e.a :: .int .i64 e.b :: .int .i64 e.l :: XS l := rfl
theorem XS_append (a b : List ExtD) : XS (a ++ b) = XS a ++ XS b := by simp [XS]
theorem XS_length (l : List ExtD) : (XS l).length = l.length * 3 := by
  induction l with
  | nil => rfl
  | cons e l ih => rw [XS_cons]; simp [ih]; omega
theorem XS_get : ∀ (l : List ExtD) (k : Nat) (h : k < l.length), (XS l)[k * 3]? = some (.int .i64 l[k].a) ∧ (XS l)[k * 3 + 1]? = some (.int .i64 l[k].b) ∧ (XS l)[k * 3 + 2]? = some (.int .i64 l[k].l)
  | e :: l, 0, _ => ⟨rfl, rfl, rfl⟩
  | e :: l, k + 1, h => by
    have := XS_get l k (by simpa using h)
    rw [XS_cons, show (k + 1) * 3 = k * 3 + 1 + 1 + 1 by omega]
    simpa using this
theorem XS_cells (l : List ExtD) : ∀ u ∈ XS l, u.oneCell' = true := by
  induction l with
  | nil => intro u hu; cases hu
  | cons e l ih =>
    intro u hu
    rw [XS_cons] at hu
    simp only [List.mem_cons] at hu
    rcases hu with rfl | rfl | rfl | hu
    · rfl
    · rfl
    · rfl
    · exact ih u hu
theorem flat_addrX {w : World} {ad : Addr} {v : Value} (h : w.cell? ad = some v) : ∃ b o, ad = ⟨b, o, none⟩ := by
  obtain ⟨b, o, sp⟩ := ad
  cases sp with
  | none => exact ⟨b, o, rfl⟩
  | some x =>
    simp only [World.cell?] at h
    split at h <;> simp at h
theorem reads_ext {w : World} {B n : Nat} {A : Option Addr} {xs : List ExtD} (h : Reads w B 3 A n (XS xs)) {k : Nat} (hk : k < n) :
    ∃ (hk' : k < xs.length) (b o : Nat), A = some ⟨b, o, none⟩ ∧ b < B ∧ w.cell? ⟨b, o + k * 3, none⟩ = some (.int .i64 xs[k].a) ∧ w.cell? ⟨b, o + k * 3 + 1, none⟩ = some (.int .i64 xs[k].b) ∧
      w.cell? ⟨b, o + k * 3 + 2, none⟩ = some (.int .i64 xs[k].l) := by
  have hl : k < xs.length := by have := h.1; rw [XS_length] at this; omega
  obtain ⟨ad, rfl, hb, hc⟩ := h.2 (by omega)
  obtain ⟨h0, h1, h2⟩ := XS_get xs k hl
  have z0 := hc _ _ h0
  have z1 := hc _ _ h1
  have z2 := hc _ _ h2
  obtain ⟨h00, _⟩ := XS_get xs 0 (by omega)
  have z00 := hc 0 _ h00
  obtain ⟨b, o, hbo⟩ := flat_addrX z00
  have hbo' : ad = ⟨b, o, none⟩ := by rw [← hbo]; simp [Addr.add]
  subst hbo'
  have ha : ∀ j, (Addr.add ⟨b, o, none⟩ j) = ⟨b, o + j, none⟩ := fun j => by unfold Addr.add; split <;> simp_all
  rw [ha] at z0 z1 z2
  exact ⟨hl, b, o, rfl, hb, z0, by rw [show o + k * 3 + 1 = o + (k * 3 + 1) by omega]; exact z1, by rw [show o + k * 3 + 2 = o + (k * 3 + 2) by omega]; exact z2⟩

/-- Bits as cells. -/
def BS (l : List Bool) : List Value := l.map .bool
theorem BS_append (a b : List Bool) : BS (a ++ b) = BS a ++ BS b := by simp [BS]
theorem BS_length (l : List Bool) : (BS l).length = l.length := by simp [BS]
theorem BS_get (l : List Bool) (k : Nat) (h : k < l.length) : (BS l)[k]? = some (.bool l[k]) := by simp [BS, h]
theorem BS_cells (l : List Bool) : ∀ u ∈ BS l, u.oneCell' = true := by
  intro u hu
  simp only [BS, List.mem_map] at hu
  obtain ⟨b, _, rfl⟩ := hu
  rfl
theorem reads_bit {w : World} {B n : Nat} {A : Option Addr} {xs : List Bool} (h : Reads w B 1 A n (BS xs)) {k : Nat} (hk : k < n) : ∃ (hk' : k < xs.length) (ad : Addr), A = some ad ∧ ad.block < B ∧ w.cell? (ad.add k) = some (.bool xs[k]) := by
  obtain ⟨ad, u, h1, h2, h3, h4⟩ := h.at_ hk
  have hl : k < xs.length := by have := h.1; rw [BS_length] at this; omega
  rw [BS_get _ _ hl] at h3
  injection h3 with h3
  exact ⟨hl, ad, h1, h2, by rw [h4, h3]⟩
theorem Try.el_bool : ElemOk Try.prog 22 4 (.bool false) 1 1 := ⟨Try.underlying22, by kernel_rfl, rfl, by omega⟩
theorem Try.el_ext : ElemOk Try.prog 32 76 (.agg #[.int .i64 0, .int .i64 0, .int .i64 0]) 3 24 := ⟨Try.underlying32, by kernel_rfl, rfl, by omega⟩

/-! ### Sizes -/
set_option maxHeartbeats 400000 in
theorem szBoolS_any (A : Option Addr) (n c : Nat) (hn : n ≤ 9223372036854775807) (k : Int) (h0 : 0 ≤ k) (hk : k ≤ 1048576) (w : World) :
    Calls Try.prog 16 #[.slice A n c, .int .i64 k] w fun e w' => ∃ r : Int, e = .returned (.int .i64 r) ∧ (r < 0 ∨ r = k - n) ∧ Below w.heap.size w w' := by
  by_cases hb : k - n < 0
  all_goals
    go_enter Try.func16, Try.ntmps16
    go_wp2
    go_ret
    exact ⟨_, rfl, by omega, bel0 w⟩
set_option maxHeartbeats 400000 in
theorem szExtS_any (A : Option Addr) (n c : Nat) (hn : n ≤ 9223372036854775807) (k : Int) (h0 : 0 ≤ k) (hk : k ≤ 1048576) (w : World) :
    Calls Try.prog 18 #[.slice A n c, .int .i64 k] w fun e w' => ∃ r : Int, e = .returned (.int .i64 r) ∧ (r < 0 ∨ r = k - n) ∧ Below w.heap.size w w' := by
  by_cases hb : k - n < 0
  all_goals
    go_enter Try.func18, Try.ntmps18
    go_wp2
    go_ret
    exact ⟨_, rfl, by omega, bel0 w⟩

/-! ### Copies -/
set_option maxRecDepth 100000 in
set_option maxHeartbeats 2000000 in
theorem toBoolS_any (A : Option Addr) (n c : Nat) (xs : List Bool) (hn : n ≤ 10000000) (w : World) (hr : Reads w w.heap.size 1 A n (BS xs)) :
    Calls Try.prog 27 #[.slice A n c] w fun e w' => e = .returned (.slice (some ⟨w.heap.size, 0, none⟩) n n) ∧ w'.ownsRow w.heap.size 4 1 (.slice (some ⟨w.heap.size, 0, none⟩) n n) n (BS xs) ∧ Below w.heap.size w w' := by
  have hl : xs.length = n := by have := hr.1; rw [BS_length] at this; omega
  have Hr := Lib.hid hr
  clear hr
  have hmk := make_any (P := Try.prog) 22 4 (.bool false) 1 1 Try.underlying22 (by kernel_rfl) n (by omega) (by omega)
  have Hown := Lib.hid (own_make w (Value.bool false).cells 4 n 1 (by unfold maxLen; omega))
  obtain ⟨M, hM⟩ : ∃ M, madeCells (Value.bool false).cells (n * 1) = M := ⟨_, rfl⟩
  rw [hM] at hmk Hown
  clear hM
  have hML : M.toList.length = n := by have := Hown.out.1; omega
  go_enter Try.func27, Try.ntmps27
  go_wp2
  clear hmk
  go_loopw [4] (fun i wr => ∃ (j : Nat), j ≤ n ∧ i = .int .i64 j ∧ wr.ownsRow w.heap.size 4 1 (.slice (some ⟨w.heap.size, 0, none⟩) n n) n (BS (xs.take j) ++ M.toList.drop j) ∧ Below w.heap.size w wr)
    (fun i _ => n - (intOf i).toNat)
  case atStart => exact ⟨0, by omega, rfl, by simpa [BS] using Hown.out, belA (bel0 w) _⟩
  case round =>
    obtain ⟨j, hj, rfl, hown, hbel⟩ := hrel
    by_cases hlt : j < n
    · obtain ⟨hkx, ad, rfl, hadb, z0⟩ := reads_bit (Hr.out.below hbel) hlt
      have q0 : (0 : Int) ≤ ↑j := by omega
      have q1 : (↑j : Int) < ↑n := by omega
      obtain ⟨u0, c0⟩ := own_cel hown j hlt
      have f0 := own_frozen hown j
      have hoz : ((xs.take j).length) = j := by rw [List.length_take]; omega
      have own2 := own_set hown j (.bool xs[j])
      rw [set_md _ _ _ _ (by rw [BS_length, hoz]) (by omega), show ([Value.bool xs[j]] : List Value) = BS [xs[j]] from rfl, ← BS_append, List.take_append_getElem hkx] at own2
      have Own2 := Lib.hid own2
      have ne : ∀ k, (ad.add j) ≠ ⟨w.heap.size, k, none⟩ := fun k e => by
        have := congrArg Addr.block e
        rw [block_of_add] at this
        simp at this; omega
      obtain ⟨xj, hxj⟩ : ∃ x, xs[j] = x := ⟨_, rfl⟩
      rw [hxj] at z0 Own2
      clear own2 hown hxj
      go_wp2_with fail
      go_roundw
      case rel => exact ⟨j + 1, by omega, by go_num, Own2.out, belC hbel _ _ (Nat.le_refl _) _⟩
      case measure => simp [intOf]; omega
    · obtain rfl : j = n := by omega
      rw [List.drop_eq_nil_of_le (by omega), List.append_nil, List.take_of_length_le (by omega)] at hown
      go_wp2
      go_ret
      exact ⟨rfl, hown, hbel⟩

set_option maxHeartbeats 1000000 in
theorem toExt_any (e : ExtD) (w : World) :
    Calls Try.prog 56 #[e.val] w fun x w' => x = .returned (.agg #[.int .i64 e.a, .int .i64 e.b, .int .i64 e.l]) ∧ Below w.heap.size w w' := by
  obtain ⟨a, b, l⟩ := e
  simp only [ExtD.val]
  go_enter Try.func56, Try.ntmps56
  go_wp2
  refine bodyPost_ret (v := .agg #[.int .i64 a, .int .i64 b, .int .i64 l]) (by simp [results, Try.results56, go_sem]) rfl ⟨rfl, ?_⟩
  exact belA (belA (belA (bel0 w) _) _) _

theorem XS_set3 {n k : Nat} (l : List ExtD) (xs : List Value) (x : ExtD) (hk : l.length = k) (hx : k < n) (hxs : xs.length = n * 3) :
    (((XS l ++ xs.drop (k * 3)).set (k * 3) (.int .i64 x.a)).set (k * 3 + 1) (.int .i64 x.b)).set (k * 3 + 2) (.int .i64 x.l) = XS (l ++ [x]) ++ xs.drop ((k + 1) * 3) := by
  subst hk
  obtain ⟨a, b, c, r, hr⟩ : ∃ a b c r, xs.drop (l.length * 3) = a :: b :: c :: r := by
    have : 3 ≤ (xs.drop (l.length * 3)).length := by rw [List.length_drop]; omega
    match hh : xs.drop (l.length * 3), this with
    | a :: b :: c :: r, _ => exact ⟨a, b, c, r, rfl⟩
  have hd : xs.drop ((l.length + 1) * 3) = r := by
    rw [show (l.length + 1) * 3 = l.length * 3 + 3 by omega, ← List.drop_drop, hr]; rfl
  rw [hd, hr, XS_append, show XS [x] = [.int .i64 x.a, .int .i64 x.b, .int .i64 x.l] from rfl]
  have hz : l.length * 3 = (XS l).length := (XS_length l).symm
  rw [hz]
  simp
theorem own_set3 {w : World} {base : Nat} {e : TypeId} {n g c k : Nat} {l : List ExtD} {xs : List Value} (x : ExtD) (h : w.ownsRow base e 3 (.slice (some ⟨g, 0, none⟩) n c) n (XS l ++ xs.drop (k * 3))) (hk : l.length = k) (hx : k < n) (hxs : xs.length = n * 3) :
    (((w.setCell ⟨g, k * 3, none⟩ (.int .i64 x.a)).setCell ⟨g, k * 3 + 1, none⟩ (.int .i64 x.b)).setCell ⟨g, k * 3 + 2, none⟩ (.int .i64 x.l)).ownsRow base e 3 (.slice (some ⟨g, 0, none⟩) n c) n (XS (l ++ [x]) ++ xs.drop ((k + 1) * 3)) := by
  have h1 := own_set (own_set (own_set h (k * 3) (.int .i64 x.a)) (k * 3 + 1) (.int .i64 x.b)) (k * 3 + 2) (.int .i64 x.l)
  rwa [XS_set3 l xs x hk hx hxs] at h1
theorem own_cells3 {w : World} {base : Nat} {e : TypeId} {n g c : Nat} {xs : List Value} (h : w.ownsRow base e 3 (.slice (some ⟨g, 0, none⟩) n c) n xs) (k : Nat) (hk : k < n) :
    (∃ u, w.cell? ⟨g, k * 3, none⟩ = some u) ∧ (∃ u, w.cell? ⟨g, k * 3 + 1, none⟩ = some u) ∧ (∃ u, w.cell? ⟨g, k * 3 + 2, none⟩ = some u) := by
  have hl := h.1
  have f : ∀ i, i < n * 3 → ∃ u, w.cell? ⟨g, i, none⟩ = some u := fun i hi => ⟨xs[i]'(by omega), by rw [h.cellAt i (by omega)]; exact List.getElem?_eq_getElem (by omega)⟩
  exact ⟨f _ (by omega), f _ (by omega), f _ (by omega)⟩

set_option maxRecDepth 100000 in
set_option maxHeartbeats 2000000 in
theorem toExtS_any (A : Option Addr) (n c : Nat) (xs : List ExtD) (hn : n ≤ 10000000) (w : World) (hr : Reads w w.heap.size 3 A n (XS xs)) :
    Calls Try.prog 29 #[.slice A n c] w fun e w' => e = .returned (.slice (some ⟨w.heap.size, 0, none⟩) n n) ∧ w'.ownsRow w.heap.size 76 3 (.slice (some ⟨w.heap.size, 0, none⟩) n n) n (XS xs) ∧ Below w.heap.size w w' := by
  have hl : xs.length = n := by have := hr.1; rw [XS_length] at this; omega
  have Hr := Lib.hid hr
  clear hr
  have hmk := make_any (P := Try.prog) 32 76 (.agg #[.int .i64 0, .int .i64 0, .int .i64 0]) 3 24 Try.underlying32 (by kernel_rfl) n (by omega) (by omega)
  have Hown := Lib.hid (own_make w (Value.agg #[.int .i64 0, .int .i64 0, .int .i64 0]).cells 76 n 3 (by unfold maxLen; omega))
  obtain ⟨M, hM⟩ : ∃ M, madeCells (Value.agg #[.int .i64 0, .int .i64 0, .int .i64 0]).cells (n * 3) = M := ⟨_, rfl⟩
  rw [hM] at hmk Hown
  clear hM
  have hML : M.toList.length = n * 3 := Hown.out.1
  go_enter Try.func29, Try.ntmps29
  go_wp2
  clear hmk
  go_loopw [4] (fun i wr => ∃ (j : Nat), j ≤ n ∧ i = .int .i64 j ∧ wr.ownsRow w.heap.size 76 3 (.slice (some ⟨w.heap.size, 0, none⟩) n n) n (XS (xs.take j) ++ M.toList.drop (j * 3)) ∧ Below w.heap.size w wr)
    (fun i _ => n - (intOf i).toNat)
  case atStart => exact ⟨0, by omega, rfl, by simpa [XS] using Hown.out, belA (bel0 w) _⟩
  case round =>
    obtain ⟨j, hj, rfl, hown, hbel⟩ := hrel
    by_cases hlt : j < n
    · obtain ⟨hkx, b, o, rfl, hadb, z0, z1, z2⟩ := reads_ext (Hr.out.below hbel) hlt
      have q0 : (0 : Int) ≤ ↑j := by omega
      have q1 : (↑j : Int) < ↑n := by omega
      go_wp2_with fail
      refine (toExt_any xs[j] _).mono ?_
      rintro e w1 ⟨rfl, hb1⟩
      have own1 := own_below hown hb1 (Nat.le_refl _)
      obtain ⟨⟨u0, c0⟩, ⟨u1, c1⟩, ⟨u2, c2⟩⟩ := own_cells3 own1 j hlt
      have f0 := own_frozen own1 (j * 3)
      have f1 := own_frozen own1 (j * 3 + 1)
      have f2 := own_frozen own1 (j * 3 + 2)
      clear z0 z1 z2
      have ne : b ≠ w.heap.size := by omega
      have hoz : ((xs.take j).length) = j := by rw [List.length_take]; omega
      have own2 := Lib.hid (own_set3 xs[j] own1 hoz hlt hML)
      have Hs := Lib.hid (show xs.take j ++ [xs[j]] = xs.take (j + 1) from (List.take_succ_eq_append_getElem hkx).symm)
      go_wp2_with fail
      go_roundw
      case rel => exact ⟨j + 1, by omega, by go_num, by rw [← Hs.out]; exact own2.out, belC (belC (belC (belN hbel hb1) _ _ (Nat.le_refl _) _) _ _ (Nat.le_refl _) _) _ _ (Nat.le_refl _) _⟩
      case measure => simp [intOf]; omega
    · obtain rfl : j = n := by omega
      rw [List.drop_eq_nil_of_le (by omega), List.append_nil, List.take_of_length_le (by omega)] at hown
      go_wp2
      go_ret
      exact ⟨rfl, hown, hbel⟩

/-! ### Compared -/
set_option maxHeartbeats 1000000 in
theorem eqExt_self (e : ExtD) (w : World) :
    Calls Try.prog 65 #[e.val, e.val] w fun x w' => x = .returned (.bool true) ∧ Below w.heap.size w w' := by
  obtain ⟨a, b, l⟩ := e
  simp only [ExtD.val]
  go_enter Try.func65, Try.ntmps65
  go_wp2
  go_ret
  exact ⟨rfl, belA (belA (bel0 w) _) _⟩

set_option maxRecDepth 100000 in
set_option maxHeartbeats 1000000 in
theorem eqExtS_self (A A' : Option Addr) (n c c' : Nat) (xs : List ExtD) (hn : n ≤ 10000000) (w : World) (hr : Reads w w.heap.size 3 A n (XS xs)) (hr' : Reads w w.heap.size 3 A' n (XS xs)) :
    Calls Try.prog 41 #[.slice A n c, .slice A' n c'] w fun e w' => e = .returned (.bool true) ∧ Below w.heap.size w w' := by
  have Hr := Lib.hid hr
  have Hr' := Lib.hid hr'
  clear hr hr'
  go_enter Try.func41, Try.ntmps41
  go_wp2
  go_loopw [5] (fun i wr => ∃ (j : Nat), j ≤ n ∧ i = .int .i64 j ∧ Below w.heap.size w wr)
    (fun i _ => n - (intOf i).toNat)
  case atStart => exact ⟨0, by omega, rfl, bel0 w⟩
  case round =>
    obtain ⟨j, hj, rfl, hbel⟩ := hrel
    by_cases hlt : j < n
    · obtain ⟨hkx, b, o, rfl, hadb, z0, z1, z2⟩ := reads_ext (Hr.out.below hbel) hlt
      obtain ⟨_, b', o', rfl, hadb', y0, y1, y2⟩ := reads_ext (Hr'.out.below hbel) hlt
      have q0 : (0 : Int) ≤ ↑j := by omega
      have q1 : (↑j : Int) < ↑n := by omega
      go_wp2_with fail
      go_region_held3 (fun w' => w'.cell? ⟨b, o + j * 3, none⟩ = some (.int .i64 xs[j].a) ∧ w'.cell? ⟨b, o + j * 3 + 1, none⟩ = some (.int .i64 xs[j].b) ∧ w'.cell? ⟨b, o + j * 3 + 2, none⟩ = some (.int .i64 xs[j].l) ∧ w'.cell? ⟨b', o' + j * 3, none⟩ = some (.int .i64 xs[j].a) ∧ w'.cell? ⟨b', o' + j * 3 + 1, none⟩ = some (.int .i64 xs[j].b) ∧ w'.cell? ⟨b', o' + j * 3 + 2, none⟩ = some (.int .i64 xs[j].l)) (first | go_keep | (refine ⟨keep1 hb1 ?_, keep1 hb1 ?_, keep1 hb1 ?_, keep1 hb1 ?_, keep1 hb1 ?_, keep1 hb1 ?_⟩ <;> go_keep))
        (first
          | (go_at_call 65; refine (eqExt_self xs[j] _).mono ?_; rintro e w1 ⟨rfl, hb1⟩))
      go_wp2
      go_roundw
      case rel => exact ⟨j + 1, by omega, by go_num, belN hbel.drew hb1⟩
      case measure => simp [intOf]; omega
    · go_wp2
      go_ret
      exact ⟨rfl, hbel⟩

set_option maxRecDepth 100000 in
set_option maxHeartbeats 2000000 in
theorem eqBoolS_self (A A' : Option Addr) (n c c' : Nat) (xs : List Bool) (hn : n ≤ 10000000) (w : World) (hr : Reads w w.heap.size 1 A n (BS xs)) (hr' : Reads w w.heap.size 1 A' n (BS xs)) :
    Calls Try.prog 39 #[.slice A n c, .slice A' n c'] w fun e w' => e = .returned (.bool true) ∧ Below w.heap.size w w' := by
  have Hr := Lib.hid hr
  have Hr' := Lib.hid hr'
  clear hr hr'
  go_enter Try.func39, Try.ntmps39
  go_wp2
  go_loopw [5] (fun i wr => ∃ (j : Nat), j ≤ n ∧ i = .int .i64 j ∧ Below w.heap.size w wr)
    (fun i _ => n - (intOf i).toNat)
  case atStart => exact ⟨0, by omega, rfl, bel0 w⟩
  case round =>
    obtain ⟨j, hj, rfl, hbel⟩ := hrel
    by_cases hlt : j < n
    · obtain ⟨hkx, ad, rfl, hadb, hcell⟩ := reads_bit (Hr.out.below hbel) hlt
      obtain ⟨_, ad', rfl, hadb', hcell'⟩ := reads_bit (Hr'.out.below hbel) hlt
      obtain ⟨xj, hxj⟩ : ∃ x, xs[j] = x := ⟨_, rfl⟩
      rw [hxj] at hcell hcell'
      clear hxj
      have q0 : (0 : Int) ≤ ↑j := by omega
      have q1 : (↑j : Int) < ↑n := by omega
      cases xj
      all_goals
        go_wp2_with fail
      · go_region_held3 (fun w' => w'.cell? (ad.add j) = some (.bool false) ∧ w'.cell? (ad'.add j) = some (.bool false)) (go_keep) (fail)
        go_wp2
        go_roundw
        case rel => exact ⟨j + 1, by omega, by go_num, hbel.drew⟩
        case measure => simp [intOf]; omega
      · go_region_held3 (fun w' => w'.cell? (ad.add j) = some (.bool true) ∧ w'.cell? (ad'.add j) = some (.bool true)) (go_keep) (fail)
        go_wp2
        go_roundw
        case rel => exact ⟨j + 1, by omega, by go_num, hbel.drew⟩
        case measure => simp [intOf]; omega
    · go_wp2
      go_ret
      exact ⟨rfl, hbel⟩

end Go.Proofs.Ytajgenjfhcapjaa
