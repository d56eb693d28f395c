/- Entries of a directory, rows of them, and pages. -/
import Derived.Test.YthdbomkddpnhaaaGreatDoorBase
namespace Go.Proofs.YthdbomkddpnhaaaGreatDoor
open Go Go.RowKit

structure EntD where
  h : Int
  i : Int
  s : ByteArray
  d : Int
def EntD.arr (e : EntD) : Array Value := #[.int .i64 e.h, .int .i64 e.i, .string e.s, .int .i64 e.d]
def EntD.val (e : EntD) : Value := .agg #[.int .i64 e.h, .int .i64 e.i, .string e.s, .int .i64 e.d]
def EntD.cells (e : EntD) : List Value := [.int .i64 e.h, .int .i64 e.i, .string e.s, .int .i64 e.d]
/-- Entries as cells. -/
def ES (l : List EntD) : List Value := l.flatMap EntD.cells
theorem ES_cons (e : EntD) (l : List EntD) : ES (e :: l) = .int .i64 e.h :: .int .i64 e.i :: .string e.s :: .int .i64 e.d :: ES l := rfl
theorem ES_append (a b : List EntD) : ES (a ++ b) = ES a ++ ES b := by simp [ES]
theorem ES_length (l : List EntD) : (ES l).length = l.length * 4 := by
  induction l with
  | nil => rfl
  | cons e l ih => rw [ES_cons]; simp [ih]; omega
theorem ES_get : ∀ (l : List EntD) (k : Nat) (h : k < l.length), (ES l)[k * 4]? = some (.int .i64 l[k].h) ∧ (ES l)[k * 4 + 1]? = some (.int .i64 l[k].i) ∧ (ES l)[k * 4 + 2]? = some (.string l[k].s) ∧ (ES l)[k * 4 + 3]? = some (.int .i64 l[k].d)
  | e :: l, 0, _ => ⟨rfl, rfl, rfl, rfl⟩
  | e :: l, k + 1, h => by
    have := ES_get l k (by simpa using h)
    rw [ES_cons, show (k + 1) * 4 = k * 4 + 1 + 1 + 1 + 1 by omega]
    simpa using this
theorem ES_cells (l : List EntD) : ∀ u ∈ ES l, u.oneCell' = true := by
  induction l with
  | nil => intro u hu; cases hu
  | cons e l ih =>
    intro u hu
    rw [ES_cons] at hu
    simp only [List.mem_cons] at hu
    rcases hu with rfl | rfl | rfl | rfl | hu
    · rfl
    · rfl
    · rfl
    · rfl
    · exact ih u hu
theorem flat_addr {w : World} {ad : Addr} {v : Value} (h : w.cell? ad = some v) : ∃ b o, ad = ⟨b, o, none⟩ := by
  obtain ⟨b, o, sp⟩ := ad
  cases sp with
  | none => exact ⟨b, o, rfl⟩
  | some x =>
    simp only [World.cell?] at h
    split at h <;> simp at h
theorem reads_ent {w : World} {B n : Nat} {A : Option Addr} {xs : List EntD} (h : Reads w B 4 A n (ES xs)) {k : Nat} (hk : k < n) :
    ∃ (hk' : k < xs.length) (b o : Nat), A = some ⟨b, o, none⟩ ∧ b < B ∧ w.cell? ⟨b, o + k * 4, none⟩ = some (.int .i64 xs[k].h) ∧ w.cell? ⟨b, o + k * 4 + 1, none⟩ = some (.int .i64 xs[k].i) ∧
      w.cell? ⟨b, o + k * 4 + 2, none⟩ = some (.string xs[k].s) ∧ w.cell? ⟨b, o + k * 4 + 3, none⟩ = some (.int .i64 xs[k].d) := by
  have hl : k < xs.length := by have := h.1; rw [ES_length] at this; omega
  obtain ⟨ad, rfl, hb, hc⟩ := h.2 (by omega)
  obtain ⟨h0, h1, h2, h3⟩ := ES_get xs k hl
  have z0 := hc _ _ h0
  have z1 := hc _ _ h1
  have z2 := hc _ _ h2
  have z3 := hc _ _ h3
  obtain ⟨h00, _⟩ := ES_get xs 0 (by omega)
  have z00 := hc 0 _ h00
  obtain ⟨b, o, hbo⟩ := flat_addr z00
  have hbo' : ad = ⟨b, o, none⟩ := by rw [← hbo]; simp [Addr.add]
  subst hbo'
  have ha : ∀ j, (Addr.add ⟨b, o, none⟩ j) = ⟨b, o + j, none⟩ := fun j => by unfold Addr.add; split <;> simp_all
  rw [ha] at z0 z1 z2 z3
  exact ⟨hl, b, o, rfl, hb, z0, by rw [show o + k * 4 + 1 = o + (k * 4 + 1) by omega]; exact z1, by rw [show o + k * 4 + 2 = o + (k * 4 + 2) by omega]; exact z2, by rw [show o + k * 4 + 3 = o + (k * 4 + 3) by omega]; exact z3⟩

/-- How much entries have of the size. -/
def szS (l : List EntD) : Nat := l.length + (l.map fun e => e.s.size).sum

set_option maxHeartbeats 1000000 in
theorem szEnt_any (e : EntD) (hs : e.s.size ≤ 9223372036854775807) (k : Int) (h0 : 0 ≤ k) (hk : k ≤ 1048576) (w : World) :
    Calls Tryz.prog 141 #[e.val, .int .i64 k] w fun x w' => ∃ r : Int, x = .returned (.int .i64 r) ∧ (r < 0 ∨ r = k - e.s.size) ∧ Below w.heap.size w w' := by
  obtain ⟨h, i, s, d⟩ := e
  simp only [EntD.val] at hs ⊢
  by_cases hb : k - s.size < 0
  · go_enter Tryz.func141, Tryz.ntmps141
    go_wp2
    go_ret
    exact ⟨_, rfl, .inl (by omega), belA (bel0 w) _⟩
  · go_enter Tryz.func141, Tryz.ntmps141
    go_wp2
    go_ret
    exact ⟨_, rfl, .inr rfl, belA (bel0 w) _⟩

set_option maxHeartbeats 1000000 in
theorem toEnt_any (e : EntD) (w : World) :
    Calls Tryz.prog 155 #[e.val] w fun x w' => x = .returned (.agg #[.int .i64 e.h, .int .i64 e.i, .string e.s, .int .i64 e.d]) ∧ Below w.heap.size w w' := by
  obtain ⟨h, i, s, d⟩ := e
  simp only [EntD.val]
  go_enter Tryz.func155, Tryz.ntmps155
  go_wp2
  refine bodyPost_ret (v := .agg #[.int .i64 h, .int .i64 i, .string s, .int .i64 d]) (by simp [results, Tryz.results155, go_sem]) rfl ⟨rfl, ?_⟩
  exact belA (belA (belA (bel0 w) _) _) _

set_option maxHeartbeats 1000000 in
theorem eqEnt_self (e : EntD) (w : World) :
    Calls Tryz.prog 171 #[e.val, e.val] w fun x w' => x = .returned (.bool true) ∧ Below w.heap.size w w' := by
  obtain ⟨h, i, s, d⟩ := e
  simp only [EntD.val]
  go_enter Tryz.func171, Tryz.ntmps171
  go_wp2
  go_ret
  exact ⟨rfl, belA (belA (bel0 w) _) _⟩

set_option maxRecDepth 100000 in
set_option maxHeartbeats 1000000 in
theorem eqEntS_self (A A' : Option Addr) (n c c' : Nat) (xs : List EntD) (hn : n ≤ 10000000) (w : World) (hr : Reads w w.heap.size 4 A n (ES xs)) (hr' : Reads w w.heap.size 4 A' n (ES xs)) :
    Calls Tryz.prog 91 #[.slice A n c, .slice A' n c'] w fun e w' => e = .returned (.bool true) ∧ Below w.heap.size w w' := by
  have Hr := Lib.hid hr
  have Hr' := Lib.hid hr'
  clear hr hr'
  go_enter Tryz.func91, Tryz.ntmps91
  go_wp2
  go_loopw [5] (fun i wr => ∃ (j : Nat), j ≤ n ∧ i = .int .i64 j ∧ Below w.heap.size w wr)
    (fun i _ => n - (intOf i).toNat)
  case atStart => exact ⟨0, by omega, rfl, bel0 w⟩
  case round =>
    obtain ⟨j, hj, rfl, hbel⟩ := hrel
    by_cases hlt : j < n
    · obtain ⟨hkx, b, o, rfl, hadb, z0, z1, z2, z3⟩ := reads_ent (Hr.out.below hbel) hlt
      obtain ⟨_, b', o', rfl, hadb', y0, y1, y2, y3⟩ := reads_ent (Hr'.out.below hbel) hlt
      have q0 : (0 : Int) ≤ ↑j := by omega
      have q1 : (↑j : Int) < ↑n := by omega
      go_wp2_with fail
      go_region_held3 (fun w' => w'.cell? ⟨b, o + j * 4, none⟩ = some (.int .i64 xs[j].h) ∧ w'.cell? ⟨b, o + j * 4 + 1, none⟩ = some (.int .i64 xs[j].i) ∧ w'.cell? ⟨b, o + j * 4 + 2, none⟩ = some (.string xs[j].s) ∧ w'.cell? ⟨b, o + j * 4 + 3, none⟩ = some (.int .i64 xs[j].d) ∧ w'.cell? ⟨b', o' + j * 4, none⟩ = some (.int .i64 xs[j].h) ∧ w'.cell? ⟨b', o' + j * 4 + 1, none⟩ = some (.int .i64 xs[j].i) ∧ w'.cell? ⟨b', o' + j * 4 + 2, none⟩ = some (.string xs[j].s) ∧ w'.cell? ⟨b', o' + j * 4 + 3, none⟩ = some (.int .i64 xs[j].d)) (first | go_keep | (refine ⟨keep1 hb1 ?_, keep1 hb1 ?_, keep1 hb1 ?_, keep1 hb1 ?_, keep1 hb1 ?_, keep1 hb1 ?_, keep1 hb1 ?_, keep1 hb1 ?_⟩ <;> go_keep))
        (first
          | (go_at_call 171; refine (eqEnt_self xs[j] _).mono ?_; rintro e w1 ⟨rfl, hb1⟩))
      go_wp2
      go_roundw
      case rel => exact ⟨j + 1, by omega, by go_num, belN hbel.drew hb1⟩
      case measure => simp [intOf]; omega
    · go_wp2
      go_ret
      exact ⟨rfl, hbel⟩

set_option maxRecDepth 100000 in
set_option maxHeartbeats 1000000 in
theorem szEntS_any (A : Option Addr) (n c : Nat) (xs : List EntD) (hz : ∀ e ∈ xs, e.s.size ≤ 9223372036854775807) (hn : n ≤ 9223372036854775807) (k : Int) (h0 : 0 ≤ k) (hk : k ≤ 1048576) (w : World) (hr : Reads w w.heap.size 4 A n (ES xs)) :
    Calls Tryz.prog 72 #[.slice A n c, .int .i64 k] w fun e w' => ∃ r : Int, e = .returned (.int .i64 r) ∧ (r < 0 ∨ r = k - szS xs) ∧ Below w.heap.size w w' := by
  have hl : xs.length = n := by have := hr.1; rw [ES_length] at this; omega
  have Hr := Lib.hid hr
  clear hr
  by_cases hb : k - n < 0
  · go_enter Tryz.func72, Tryz.ntmps72
    go_wp2
    go_ret
    exact ⟨_, rfl, .inl (by omega), bel0 w⟩
  · go_enter Tryz.func72, Tryz.ntmps72
    go_wp2
    go_loopw [1, 5] (fun m i wr => ∃ (j : Nat) (q : Int), j ≤ n ∧ i = .int .i64 j ∧ m = .int .i64 q ∧ 0 ≤ q ∧ q ≤ k ∧ Hid (q + ((xs.take j).map fun e => e.s.size).sum = k - n) ∧ Below w.heap.size w wr)
      (fun _ i _ => n - (intOf i).toNat)
    case atStart => exact ⟨0, k - n, by omega, rfl, by go_num, by omega, by omega, by simp [Hid], bel0 w⟩
    case round =>
      obtain ⟨j, q, hj, rfl, rfl, hq0, hqk, hsum, hbel⟩ := hrel
      by_cases hlt : j < n
      · obtain ⟨hkx, b, o, rfl, hadb, z0, z1, z2, z3⟩ := reads_ent (Hr.out.below hbel) hlt
        have q0 : (0 : Int) ≤ ↑j := by omega
        have q1 : (↑j : Int) < ↑n := by omega
        have hzj := hz _ (List.getElem_mem hkx)
        have Hz := Lib.hid hz
        have Hs := Lib.hid (show ((xs.take (j + 1)).map fun e => e.s.size).sum = ((xs.take j).map fun e => e.s.size).sum + xs[j].s.size by
          rw [List.take_succ_eq_append_getElem hkx, List.map_append, List.sum_append]; simp)
        clear hz
        go_wp2_with fail
        refine (szEnt_any xs[j] hzj q hq0 (by omega) _).mono ?_
        rintro e w1 ⟨r, rfl, hr, hb1⟩
        by_cases hneg : r < 0
        · go_wp2
          go_ret
          exact ⟨_, rfl, .inl (by omega), belN hbel hb1⟩
        · obtain rfl : r = q - xs[j].s.size := by omega
          go_wp2_with fail
          go_roundw
          case rel => exact ⟨j + 1, q - xs[j].s.size, by omega, by go_num, rfl, by omega, by omega, by have := hsum.out; have := Hs.out; show _ = _; omega, belN hbel hb1⟩
          case measure => simp [intOf]; omega
      · have Hs := Lib.hid (show xs.take j = xs from List.take_of_length_le (by omega))
        go_wp2
        go_ret
        exact ⟨_, rfl, .inr (by have := hsum.out; rw [Hs.out] at this; unfold szS; omega), hbel⟩

theorem run_make_any {P : Program} (t e : TypeId) (z : Value) (size bytes : Nat) (ht : P.underlying t = some (.slice e)) (hinfo : (P.info? e).map (fun i => (i.zero, i.size, i.bytes)) = some (some z, size, bytes))
    (n : Nat) (hbytes : bytes * n ≤ 281474976710656) (h63 : n ≤ 9223372036854775807) (w : World) :
    (Instr.makeSlice t (.int .i64 (n : Int)) (.int .i64 (n : Int))).run P w = .ok (.slice (some ⟨w.heap.size, 0, none⟩) n n) (w.alloc (.cells (madeCells z.cells (n * size)) e)) := by
  obtain ⟨i, hi, hzz⟩ := Option.map_eq_some_iff.1 hinfo
  simp only [Prod.mk.injEq] at hzz
  obtain ⟨hz, hs, hb⟩ := hzz
  have hb' : (i.bytes : Int) * (n : Int) ≤ 281474976710656 := by
    have h : ((i.bytes * n : Nat) : Int) ≤ 281474976710656 := by rw [hb]; omega
    rwa [Int.natCast_mul] at h
  have hr := run_make (P := P) w t e i z ht hi hz .i64 .i64 n n (by omega) (Int.le_refl _) hb' (by omega)
  simp only [Int.toNat_natCast, hs] at hr
  exact hr
theorem own_made (w : World) (z : Array Value) (e : TypeId) (n size : Nat) (hn : n ≤ maxLen) :
    (w.alloc (.cells (madeCells z (n * size)) e)).ownsRow w.heap.size e size (.slice (some ⟨w.heap.size, 0, none⟩) n n) n (madeCells z (n * size)).toList :=
  World.ownsRow_lit w (madeCells z (n * size)) n (Nat.le_refl _) hn (by rw [size_madeCells])

theorem own_set4 {w : World} {base : Nat} {e : TypeId} {n g c k : Nat} {l : List EntD} {xs : List Value} (x : EntD) (h : w.ownsRow base e 4 (.slice (some ⟨g, 0, none⟩) n c) n (ES l ++ xs.drop (l.length * 4))) (hk : k = l.length) (hx : l.length < n) (hxs : xs.length = n * 4) :
    ((((w.setCell ⟨g, k * 4, none⟩ (.int .i64 x.h)).setCell ⟨g, k * 4 + 1, none⟩ (.int .i64 x.i)).setCell ⟨g, k * 4 + 2, none⟩ (.string x.s)).setCell ⟨g, k * 4 + 3, none⟩ (.int .i64 x.d)).ownsRow base e 4 (.slice (some ⟨g, 0, none⟩) n c) n
      (ES (l ++ [x]) ++ xs.drop ((l.length + 1) * 4)) := by
  subst hk
  have h1 := own_set (own_set (own_set (own_set h (l.length * 4) (.int .i64 x.h)) (l.length * 4 + 1) (.int .i64 x.i)) (l.length * 4 + 2) (.string x.s)) (l.length * 4 + 3) (.int .i64 x.d)
  refine cast (congrArg _ ?_) h1
  obtain ⟨a, b, c, d, r, hr⟩ : ∃ a b c d r, xs.drop (l.length * 4) = a :: b :: c :: d :: r := by
    have : 4 ≤ (xs.drop (l.length * 4)).length := by rw [List.length_drop]; omega
    match hh : xs.drop (l.length * 4), this with
    | a :: b :: c :: d :: r, _ => exact ⟨a, b, c, d, r, rfl⟩
  have hd : xs.drop ((l.length + 1) * 4) = r := by
    rw [show (l.length + 1) * 4 = l.length * 4 + 4 by omega, ← List.drop_drop, hr]; rfl
  rw [hd, hr, ES_append, show ES [x] = [.int .i64 x.h, .int .i64 x.i, .string x.s, .int .i64 x.d] from rfl]
  have hz : l.length * 4 = (ES l).length := (ES_length l).symm
  rw [hz]
  simp

theorem own_cells4 {w : World} {base : Nat} {e : TypeId} {n g c : Nat} {xs : List Value} (h : w.ownsRow base e 4 (.slice (some ⟨g, 0, none⟩) n c) n xs) (k : Nat) (hk : k < n) :
    (∃ u, w.cell? ⟨g, k * 4, none⟩ = some u) ∧ (∃ u, w.cell? ⟨g, k * 4 + 1, none⟩ = some u) ∧ (∃ u, w.cell? ⟨g, k * 4 + 2, none⟩ = some u) ∧ (∃ u, w.cell? ⟨g, k * 4 + 3, none⟩ = some u) := by
  have hl := h.1
  have f : ∀ i, i < n * 4 → ∃ u, w.cell? ⟨g, i, none⟩ = some u := fun i hi => ⟨xs[i]'(by omega), by rw [h.cellAt i (by omega)]; exact List.getElem?_eq_getElem (by omega)⟩
  exact ⟨f _ (by omega), f _ (by omega), f _ (by omega), f _ (by omega)⟩

set_option maxRecDepth 100000 in
set_option maxHeartbeats 2000000 in
theorem toEntS_any (A : Option Addr) (n c : Nat) (xs : List EntD) (hn : n ≤ 10000000) (w : World) (hr : Reads w w.heap.size 4 A n (ES xs)) :
    Calls Tryz.prog 82 #[.slice A n c] w fun e w' => e = .returned (.slice (some ⟨w.heap.size, 0, none⟩) n n) ∧ w'.ownsRow w.heap.size 72 4 (.slice (some ⟨w.heap.size, 0, none⟩) n n) n (ES xs) ∧ Below w.heap.size w w' := by
  have hl : xs.length = n := by have := hr.1; rw [ES_length] at this; omega
  have Hr := Lib.hid hr
  clear hr
  have hmk := run_make_any (P := Tryz.prog) 48 72 (.agg #[.int .i64 0, .int .i64 0, .string ⟨#[]⟩, .int .i64 0]) 4 40 Tryz.underlying48 (by kernel_rfl) n (by omega) (by omega)
  have Hown := Lib.hid (own_made w (Value.agg #[.int .i64 0, .int .i64 0, .string ⟨#[]⟩, .int .i64 0]).cells 72 n 4 (by unfold maxLen; omega))
  obtain ⟨M, hM⟩ : ∃ M, madeCells (Value.agg #[.int .i64 0, .int .i64 0, .string ⟨#[]⟩, .int .i64 0]).cells (n * 4) = M := ⟨_, rfl⟩
  rw [hM] at hmk Hown
  clear hM
  have hML : M.toList.length = n * 4 := Hown.out.1
  go_enter Tryz.func82, Tryz.ntmps82
  go_wp2
  clear hmk
  go_loopw [4] (fun i wr => ∃ (j : Nat), j ≤ n ∧ i = .int .i64 j ∧ wr.ownsRow w.heap.size 72 4 (.slice (some ⟨w.heap.size, 0, none⟩) n n) n (ES (xs.take j) ++ M.toList.drop (j * 4)) ∧ Below w.heap.size w wr)
    (fun i _ => n - (intOf i).toNat)
  case atStart => exact ⟨0, by omega, rfl, by simpa [ES] using Hown.out, belA (bel0 w) _⟩
  case round =>
    obtain ⟨j, hj, rfl, hown, hbel⟩ := hrel
    by_cases hlt : j < n
    · obtain ⟨hkx, b, o, rfl, hadb, z0, z1, z2, z3⟩ := reads_ent (Hr.out.below hbel) hlt
      have q0 : (0 : Int) ≤ ↑j := by omega
      have q1 : (↑j : Int) < ↑n := by omega
      go_wp2_with fail
      refine (toEnt_any xs[j] _).mono ?_
      rintro e w1 ⟨rfl, hb1⟩
      have own1 := own_below hown hb1 (Nat.le_refl _)
      obtain ⟨⟨u0, c0⟩, ⟨u1, c1⟩, ⟨u2, c2⟩, ⟨u3, c3⟩⟩ := own_cells4 own1 j hlt
      have f0 := own_frozen own1 (j * 4)
      have f1 := own_frozen own1 (j * 4 + 1)
      have f2 := own_frozen own1 (j * 4 + 2)
      have f3 := own_frozen own1 (j * 4 + 3)
      clear z0 z1 z2 z3
      have ne : b ≠ w.heap.size := by omega
      have hoz : ((xs.take j).length) = j := by rw [List.length_take]; omega
      have own2 := Lib.hid (own_set4 xs[j] (l := xs.take j) (k := j) (xs := M.toList) (by rw [hoz]; exact own1) hoz.symm (by omega) hML)
      rw [hoz] at own2
      have Hs := Lib.hid (show xs.take j ++ [xs[j]] = xs.take (j + 1) from (List.take_succ_eq_append_getElem hkx).symm)
      go_wp2_with fail
      go_roundw
      case rel => exact ⟨j + 1, by omega, by go_num, by rw [← Hs.out]; exact own2.out, belC (belC (belC (belC (belN hbel hb1) _ _ (Nat.le_refl _) _) _ _ (Nat.le_refl _) _) _ _ (Nat.le_refl _) _) _ _ (Nat.le_refl _) _⟩
      case measure => simp [intOf]; omega
    · obtain rfl : j = n := by omega
      rw [List.drop_eq_nil_of_le (by omega), List.append_nil, List.take_of_length_le (by omega)] at hown
      go_wp2
      go_ret
      exact ⟨rfl, hown, hbel⟩

end Go.Proofs.YthdbomkddpnhaaaGreatDoor
