/- What a law's functions do to stores and files: the file's copy, comparing, marking. -/
import Derived.Test.YtajgenjfhcapjaaFwLawC
namespace Go.Proofs.Ytajgenjfhcapjaa
open Go Go.RowKit

set_option maxRecDepth 100000 in
set_option maxHeartbeats 2000000 in
theorem toFil_is (v : Value) (F : FilD) (hF : F.xs.length ≤ 10000000) (w : World) (h : IsFil w v F) :
    Calls Try.prog 8 #[v] w fun e w' => ∃ v', e = .returned v' ∧ OwnFil w.heap.size v' F w' ∧ Below w.heap.size w w' := by
  obtain ⟨A1, c1, rfl, r1⟩ := h
  obtain ⟨n1, hl1⟩ : ∃ n, F.xs.length = n := ⟨_, rfl⟩
  obtain ⟨sz, hsz⟩ : ∃ n, F.sz = n := ⟨_, rfl⟩
  have Hr1 := Lib.hid (fun W (hb : Below w.heap.size w W) => r1.nxt hb)
  rw [hl1] at Hr1 hF
  rw [hl1, hsz]
  have Hl1 := Lib.hid hl1
  have Hsz := Lib.hid hsz
  clear r1 hl1 hsz
  obtain ⟨W1, hW1⟩ : ∃ W1, ((w.alloc (.cells #[.int .i64 sz, .slice A1 n1 c1] 28)).alloc (.cells #[.int .i64 0, .slice none 0 0] 34)).alloc (.cells #[.int .i64 sz, .slice none 0 0] 34) = W1 := ⟨_, rfl⟩
  have X : Blk W1 w.heap.size 28 #[.int .i64 sz, .slice A1 n1 c1] := by rw [← hW1]; exact ((Blk.new' _ _ _ _ rfl).alloc _).alloc _
  have R : Blk W1 (w.heap.size + 1) 34 #[.int .i64 0, .slice none 0 0] := by rw [← hW1]; exact (Blk.new' _ _ _ _ (by simp)).alloc _
  have O : Blk W1 (w.heap.size + 1 + 1) 34 #[.int .i64 sz, .slice none 0 0] := by rw [← hW1]; exact Blk.new' _ _ _ _ (by simp)
  have B1 : Below w.heap.size w W1 := by rw [← hW1]; exact belA (belA (belA (bel0 w) _) _) _
  have x1 := X.get (x := .slice A1 n1 c1) 1 rfl
  have lX := X.lt
  go_enter Try.func8, Try.ntmps8
  go_wp2_with fail
  try rw [hW1]
  clear hW1 x1 lX X
  refine (toExtS_any A1 n1 c1 F.xs hF _ (Hr1.out _ B1)).mono ?_
  rintro e w4 ⟨rfl, own4, hb4⟩
  obtain ⟨gs, hgs⟩ : ∃ g, W1.heap.size = g := ⟨_, rfl⟩
  have hws := B1.size
  rw [hgs] at own4 hws ⊢
  have B4 := belN B1 hb4
  have R4 := R.below hb4 R.lt
  have O4 := O.below hb4 O.lt
  have Own4 := Lib.hid (own_more own4 (by omega : w.heap.size ≤ gs))
  have y1 := O4.get (x := .slice none 0 0) 1 rfl
  have f1 := O4.frozen 1
  have lO := O4.lt
  have y0 := O4.get (x := .int .i64 sz) 0 rfl
  have r0 := R4.get (x := .int .i64 0) 0 rfl
  have r1 := R4.get (x := .slice none 0 0) 1 rfl
  have g0 := R4.frozen 0
  have g1 := R4.frozen 1
  have lR := R4.lt
  clear own4 hb4 hgs O R
  have R5 := R4.far (p := ⟨w.heap.size + 1 + 1, 1, none⟩) (by simp only; omega) (.slice (some ⟨gs, 0, none⟩) n1 n1)
  have Own6 := Lib.hid (own_farT (own_farT (own_farT Own4.out O4 (by decide) 1 (.slice (some ⟨gs, 0, none⟩) n1 n1)) R5 (by decide) 0 (.int .i64 sz)) (R5.put 0 _ _ rfl) (by decide) 1 (.slice (some ⟨gs, 0, none⟩) n1 n1))
  have B5 := Lib.hid (belC (belC (belC B4 (w.heap.size + 1 + 1) 1 (by omega) (.slice (some ⟨gs, 0, none⟩) n1 n1)) (w.heap.size + 1) 0 (by omega) (.int .i64 sz)) (w.heap.size + 1) 1 (by omega) (.slice (some ⟨gs, 0, none⟩) n1 n1))
  clear R5 Own4 B4 B1 O4 R4
  go_wp2
  refine bodyPost_ret (v := .agg #[.int .i64 sz, .slice (some ⟨gs, 0, none⟩) n1 n1]) (by simp [results, Try.results8, go_sem, r0, r1]) rfl ⟨_, rfl, ⟨_, by rw [Hsz.out], by rw [Hl1.out]; exact Own6.out⟩, B5.out⟩

/-- What another row's marking leaves of a row, of a box (their types differ). -/
theorem own_keepT {w w' : World} {base n size : Nat} {e : TypeId} {v : Value} {xs : List Value} (h : w.ownsRow base e size v n xs) {base' n' size' : Nat} {e' : TypeId} {v' : Value} {xs' : List Value}
    (hr : w.ownsRow base' e' size' v' n' xs') (hg : w.grownBy w' v'.ownBlock) (hne : e ≠ e') : w'.ownsRow base e size v n xs := by
  rcases hr.2 with ⟨rfl, _⟩ | ⟨g, cap, cur, rfl, _, hh, _⟩
  · exact own_below h (B := w.heap.size) ⟨hg.os, hg.tape, hg.output, hg.size, fun i hi => hg.block i hi (by simp [Value.ownBlock])⟩ (Nat.le_refl _)
  · exact own_grT h hr hg hne
theorem blk_keepT {w w' : World} {g0 : Nat} {t : TypeId} {cs : Array Value} (h : Blk w g0 t cs) {base' n' size' : Nat} {e' : TypeId} {v' : Value} {xs' : List Value}
    (hr : w.ownsRow base' e' size' v' n' xs') (hg : w.grownBy w' v'.ownBlock) (hne : t ≠ e') : Blk w' g0 t cs := by
  rcases hr.2 with ⟨rfl, _⟩ | ⟨g, cap, cur, rfl, _, hh, _⟩
  · exact (hg.block g0 h.lt (by simp [Value.ownBlock])).trans h
  · exact blk_grT h hr hg hne
/-! ### Compared -/
set_option maxHeartbeats 1000000 in
theorem eqStore_is (v v' : Value) (S : StoD) (h1 : S.bs.length ≤ 10000000) (h2 : S.ds.length ≤ 10000000) (w : World) (h : IsSto w v S) (h' : IsSto w v' S) :
    Calls Try.prog 10 #[v, v'] w fun e w' => e = .returned (.bool true) ∧ Below w.heap.size w w' := by
  obtain ⟨A1, c1, A2, c2, rfl, r1, r2⟩ := h
  obtain ⟨B1, d1, B2, d2, rfl, s1, s2⟩ := h'
  obtain ⟨n1, hl1⟩ : ∃ n, S.bs.length = n := ⟨_, rfl⟩
  obtain ⟨n2, hl2⟩ : ∃ n, S.ds.length = n := ⟨_, rfl⟩
  have Hr1 := Lib.hid (fun W (hb : Below w.heap.size w W) => r1.nxt hb)
  have Hr2 := Lib.hid (fun W (hb : Below w.heap.size w W) => r2.nxt hb)
  have Hs1 := Lib.hid (fun W (hb : Below w.heap.size w W) => s1.nxt hb)
  have Hs2 := Lib.hid (fun W (hb : Below w.heap.size w W) => s2.nxt hb)
  rw [hl1] at Hr1 Hs1 h1
  rw [hl2] at Hr2 Hs2 h2
  rw [hl1, hl2]
  clear r1 r2 s1 s2 hl1 hl2
  obtain ⟨W1, hW1⟩ : ∃ W1, (w.alloc (.cells #[.slice A1 n1 c1, .slice A2 n2 c2] 31)).alloc (.cells #[.slice B1 n1 d1, .slice B2 n2 d2] 31) = W1 := ⟨_, rfl⟩
  have X : Blk W1 w.heap.size 31 #[.slice A1 n1 c1, .slice A2 n2 c2] := by rw [← hW1]; exact (Blk.new' _ _ _ _ rfl).alloc _
  have Y : Blk W1 (w.heap.size + 1) 31 #[.slice B1 n1 d1, .slice B2 n2 d2] := by rw [← hW1]; exact Blk.new' _ _ _ _ (by simp)
  have BB1 : Below w.heap.size w W1 := by rw [← hW1]; exact belA (belA (bel0 w) _) _
  have x0 := X.get (x := .slice A1 n1 c1) 0 rfl
  have y0 := Y.get (x := .slice B1 n1 d1) 0 rfl
  have lX := X.lt
  have lY := Y.lt
  go_enter Try.func10, Try.ntmps10
  go_wp2_with fail
  try rw [hW1]
  clear hW1 x0 y0 lX lY
  refine (eqBoolS_self A1 B1 n1 c1 d1 S.bs h1 _ (Hr1.out _ BB1) (Hs1.out _ BB1)).mono ?_
  rintro e w2 ⟨rfl, hb2⟩
  have BB2 := belN BB1 hb2
  have x1 := (X.below hb2 X.lt).get (x := .slice A2 n2 c2) 1 rfl
  have y1 := (Y.below hb2 Y.lt).get (x := .slice B2 n2 d2) 1 rfl
  have lX := (X.below hb2 X.lt).lt
  have lY := (Y.below hb2 Y.lt).lt
  clear X Y
  go_wp2_with fail
  refine (eqStringS_self A2 B2 n2 c2 d2 S.ds h2 _ (Hr2.out _ BB2) (Hs2.out _ BB2)).mono ?_
  rintro e w3 ⟨rfl, hb3⟩
  go_wp2
  go_ret
  exact ⟨rfl, belN BB2 hb3⟩

set_option maxHeartbeats 1000000 in
theorem eqFil_is (v v' : Value) (F : FilD) (h1 : F.xs.length ≤ 10000000) (w : World) (h : IsFil w v F) (h' : IsFil w v' F) :
    Calls Try.prog 11 #[v, v'] w fun e w' => e = .returned (.bool true) ∧ Below w.heap.size w w' := by
  obtain ⟨A1, c1, rfl, r1⟩ := h
  obtain ⟨B1, d1, rfl, s1⟩ := h'
  obtain ⟨n1, hl1⟩ : ∃ n, F.xs.length = n := ⟨_, rfl⟩
  obtain ⟨sz, hsz⟩ : ∃ n, F.sz = n := ⟨_, rfl⟩
  have Hr1 := Lib.hid (fun W (hb : Below w.heap.size w W) => r1.nxt hb)
  have Hs1 := Lib.hid (fun W (hb : Below w.heap.size w W) => s1.nxt hb)
  rw [hl1] at Hr1 Hs1 h1
  rw [hl1, hsz]
  clear r1 s1 hl1 hsz
  obtain ⟨W1, hW1⟩ : ∃ W1, (w.alloc (.cells #[.int .i64 sz, .slice A1 n1 c1] 34)).alloc (.cells #[.int .i64 sz, .slice B1 n1 d1] 34) = W1 := ⟨_, rfl⟩
  have X : Blk W1 w.heap.size 34 #[.int .i64 sz, .slice A1 n1 c1] := by rw [← hW1]; exact (Blk.new' _ _ _ _ rfl).alloc _
  have Y : Blk W1 (w.heap.size + 1) 34 #[.int .i64 sz, .slice B1 n1 d1] := by rw [← hW1]; exact Blk.new' _ _ _ _ (by simp)
  have BB1 : Below w.heap.size w W1 := by rw [← hW1]; exact belA (belA (bel0 w) _) _
  have x0 := X.get (x := .int .i64 sz) 0 rfl
  have y0 := Y.get (x := .int .i64 sz) 0 rfl
  have x1 := X.get (x := .slice A1 n1 c1) 1 rfl
  have y1 := Y.get (x := .slice B1 n1 d1) 1 rfl
  have lX := X.lt
  have lY := Y.lt
  go_enter Try.func11, Try.ntmps11
  go_wp2_with fail
  try rw [hW1]
  clear hW1 x0 y0 x1 y1 lX lY
  refine (eqExtS_self A1 B1 n1 c1 d1 F.xs h1 _ (Hr1.out _ BB1) (Hs1.out _ BB1)).mono ?_
  rintro e w2 ⟨rfl, hb2⟩
  go_wp2
  go_ret
  exact ⟨rfl, belN BB1 hb2⟩

/-! ### Marked -/
def MkS (k : Int) (n1 n2 : Nat) : StoD := ⟨marksB k n1, marks (k + n1) n2⟩
def MkF (sz k : Int) (n : Nat) : FilD := ⟨sz, marksX k n⟩

set_option maxRecDepth 100000 in
set_option maxHeartbeats 2000000 in
theorem markStore_is (lo hi : Nat) (v : Value) (S : StoD) (h1 : S.bs.length ≤ 10000000) (h2 : S.ds.length ≤ 10000000) (k : Int) (hk0 : 0 ≤ k) (hk : k ≤ 10000000) (w : World) (h : StoIn lo hi v S w) :
    Calls Try.prog 12 #[v, .int .i64 k] w fun e w' => e = .returned (.int .i64 (k + S.bs.length + S.ds.length)) ∧ OwnSto lo v (MkS k S.bs.length S.ds.length) w' ∧ BetwX lo hi w w' ∧ (∀ l u F, OwnFil l u F w → OwnFil l u F w') := by
  obtain ⟨hhi, v1, v2, rfl, o1, o2, i1, i2⟩ := h
  obtain ⟨n1, hl1⟩ : ∃ n, S.bs.length = n := ⟨_, rfl⟩
  obtain ⟨n2, hl2⟩ : ∃ n, S.ds.length = n := ⟨_, rfl⟩
  rw [hl1] at o1 h1 ⊢
  rw [hl2] at o2 h2 ⊢
  obtain ⟨A1, c1, rfl, _, _, _⟩ := own_vals o1
  obtain ⟨A2, c2, rfl, _, _, _⟩ := own_vals o2
  obtain ⟨W1, hW1⟩ : ∃ W1, w.alloc (.cells #[.slice A1 n1 c1, .slice A2 n2 c2] 31) = W1 := ⟨_, rfl⟩
  have X : Blk W1 w.heap.size 31 #[.slice A1 n1 c1, .slice A2 n2 c2] := by rw [← hW1]; exact Blk.new' _ _ _ _ rfl
  have B1 : Below w.heap.size w W1 := by rw [← hW1]; exact belA (bel0 w) _
  have O1 := Lib.hid (own_below o1 B1 (Nat.le_refl _))
  have O2 := Lib.hid (own_below o2 B1 (Nat.le_refl _))
  have HX := Lib.hid (show ∀ l u F, OwnFil l u F w → OwnFil l u F W1 from fun l u F h => h.next B1)
  have x0 := X.get (x := .slice A1 n1 c1) 0 rfl
  have lX := X.lt
  have I1 := Lib.hid i1
  have I2 := Lib.hid i2
  clear o1 o2 hl1 hl2 i1 i2
  go_enter Try.func12, Try.ntmps12
  go_wp2_with fail
  try rw [hW1]
  clear hW1 x0 lX
  refine (markBoolS_v lo _ n1 (BS S.bs) k hk0 (by omega) h1 _ O1.out).mono ?_
  rintro e w2 ⟨rfl, p1, hg2⟩
  have hbw1 := BetwX.of_grown hg2 I1.out
  have P2 := Lib.hid (own_keepT O2.out O1.out hg2 (by decide))
  have X2 := blk_keepT X O1.out hg2 (by decide)
  have HX2 := Lib.hid (show ∀ l u F, OwnFil l u F w → OwnFil l u F w2 from fun l u F h => by
    obtain ⟨v1, e, h1⟩ := HX.out l u F h
    exact ⟨v1, e, own_keepT h1 O1.out hg2 (by decide)⟩)
  have P1 := Lib.hid p1
  have HB2 := Lib.hid ((BetwX.of_below (lo := lo) (hi := hi) B1).trans hbw1)
  have x1 := X2.get (x := .slice A2 n2 c2) 1 rfl
  have lX := X2.lt
  clear p1 hg2 hbw1 O1 O2 HX X
  go_wp2_with fail
  refine (markStringS_any lo _ n2 S.ds (k + n1) (by omega) (by omega) h2 _ P2.out).mono ?_
  rintro e w3 ⟨rfl, p2, hg3⟩
  have hbw2 := BetwX.of_grown hg3 I2.out
  have Q1 := Lib.hid (own_keepT P1.out P2.out hg3 (by decide))
  have HX3 := Lib.hid (show ∀ l u F, OwnFil l u F w → OwnFil l u F w3 from fun l u F h => by
    obtain ⟨v1, e, h1⟩ := HX2.out l u F h
    exact ⟨v1, e, own_keepT h1 P2.out hg3 (by decide)⟩)
  have Q2 := Lib.hid p2
  have HB3 := Lib.hid (HB2.out.trans hbw2)
  clear p2 hg3 hbw2 x1 lX X2 P1 P2 HX2 HB2
  go_wp2
  go_ret
  exact ⟨rfl, ⟨_, _, rfl, own_eqn Q1.out (by simp [MkS, marksB_len]), own_eqn Q2.out (by simp [MkS, marks_len])⟩, HB3.out, HX3.out⟩

set_option maxRecDepth 100000 in
set_option maxHeartbeats 2000000 in
theorem markFil_is (lo hi : Nat) (v : Value) (F : FilD) (h1 : F.xs.length ≤ 10000000) (k : Int) (hk0 : 0 ≤ k) (hk : k ≤ 50000000) (w : World) (h : FilIn lo hi v F w) :
    Calls Try.prog 13 #[v, .int .i64 k] w fun e w' => e = .returned (.int .i64 (k + 3 * (F.xs.length : Int))) ∧ OwnFil lo v (MkF F.sz k F.xs.length) w' ∧ BetwX lo hi w w' ∧ (∀ l u S, OwnSto l u S w → OwnSto l u S w') := by
  obtain ⟨hhi, v1, rfl, o1, i1⟩ := h
  obtain ⟨n1, hl1⟩ : ∃ n, F.xs.length = n := ⟨_, rfl⟩
  obtain ⟨sz, hsz⟩ : ∃ n, F.sz = n := ⟨_, rfl⟩
  rw [hl1] at o1 h1 ⊢
  rw [hsz]
  obtain ⟨A1, c1, rfl, _, _, _⟩ := own_vals o1
  obtain ⟨W1, hW1⟩ : ∃ W1, w.alloc (.cells #[.int .i64 sz, .slice A1 n1 c1] 34) = W1 := ⟨_, rfl⟩
  have X : Blk W1 w.heap.size 34 #[.int .i64 sz, .slice A1 n1 c1] := by rw [← hW1]; exact Blk.new' _ _ _ _ rfl
  have B1 : Below w.heap.size w W1 := by rw [← hW1]; exact belA (bel0 w) _
  have O1 := Lib.hid (own_below o1 B1 (Nat.le_refl _))
  have HX := Lib.hid (show ∀ l u S, OwnSto l u S w → OwnSto l u S W1 from fun l u S h => h.next B1)
  have x1 := X.get (x := .slice A1 n1 c1) 1 rfl
  have lX := X.lt
  have I1 := Lib.hid i1
  clear o1 hl1 hsz i1 X
  go_enter Try.func13, Try.ntmps13
  go_wp2_with fail
  try rw [hW1]
  clear hW1 x1 lX
  refine (markExtS_v lo _ n1 (XS F.xs) k hk0 (by omega) h1 _ O1.out).mono ?_
  rintro e w2 ⟨rfl, p1, hg2⟩
  have hbw1 := BetwX.of_grown hg2 I1.out
  have HX2 := Lib.hid (show ∀ l u S, OwnSto l u S w → OwnSto l u S w2 from fun l u S h => by
    obtain ⟨v1, v2, e, h1, h2⟩ := HX.out l u S h
    exact ⟨v1, v2, e, own_keepT h1 O1.out hg2 (by decide), own_keepT h2 O1.out hg2 (by decide)⟩)
  have P1 := Lib.hid p1
  have HB2 := Lib.hid ((BetwX.of_below (lo := lo) (hi := hi) B1).trans hbw1)
  clear p1 hg2 hbw1 O1 HX
  go_wp2
  go_ret
  exact ⟨rfl, ⟨_, rfl, own_eqn P1.out (by simp [MkF, marksX_len])⟩, HB2.out, HX2.out⟩

/-! ### Held -/
set_option maxHeartbeats 1000000 in
theorem heldStore_is (lo : Nat) (v : Value) (n1 n2 : Nat) (h1 : n1 ≤ 10000000) (h2 : n2 ≤ 10000000) (k : Int) (hk0 : 0 ≤ k) (hk : k ≤ 10000000) (w : World) (h : OwnSto lo v (MkS k n1 n2) w) :
    Calls Try.prog 14 #[v, .int .i64 k] w fun e w' => e = .returned (.int .i64 (k + n1 + n2)) ∧ Below w.heap.size w w' := by
  obtain ⟨v1, v2, rfl, o1, o2⟩ := h
  have o1 := own_eqn o1 (show (MkS k n1 n2).bs.length = n1 by simp [MkS, marksB_len])
  have o2 := own_eqn o2 (show (MkS k n1 n2).ds.length = n2 by simp [MkS, marks_len])
  obtain ⟨A1, c1, rfl, _, _, r1⟩ := own_vals o1
  obtain ⟨A2, c2, rfl, _, _, r2⟩ := own_vals o2
  have Hr1 := Lib.hid (fun W (hb : Below w.heap.size w W) => r1.nxt hb)
  have Hr2 := Lib.hid (fun W (hb : Below w.heap.size w W) => r2.nxt hb)
  clear o1 o2 r1 r2
  obtain ⟨W1, hW1⟩ : ∃ W1, w.alloc (.cells #[.slice A1 n1 c1, .slice A2 n2 c2] 31) = W1 := ⟨_, rfl⟩
  have X : Blk W1 w.heap.size 31 #[.slice A1 n1 c1, .slice A2 n2 c2] := by rw [← hW1]; exact Blk.new' _ _ _ _ rfl
  have B1 : Below w.heap.size w W1 := by rw [← hW1]; exact belA (bel0 w) _
  have x0 := X.get (x := .slice A1 n1 c1) 0 rfl
  have lX := X.lt
  go_enter Try.func14, Try.ntmps14
  go_wp2_with fail
  try rw [hW1]
  clear hW1 x0 lX
  refine (heldBoolS_any A1 n1 c1 k hk0 (by omega) h1 _ (Hr1.out _ B1)).mono ?_
  rintro e w2 ⟨rfl, hb2⟩
  have B2 := belN B1 hb2
  have x1 := (X.below hb2 X.lt).get (x := .slice A2 n2 c2) 1 rfl
  have lX := (X.below hb2 X.lt).lt
  have q0 : ¬ (k + (n1 : Int) < 0) := by omega
  clear X
  go_wp2_with fail
  refine (heldStringS_any A2 n2 c2 (k + n1) (by omega) (by omega) h2 _ (Hr2.out _ B2)).mono ?_
  rintro e w3 ⟨rfl, hb3⟩
  have q1 : ¬ (k + (n1 : Int) + (n2 : Int) < 0) := by omega
  go_wp2
  go_ret
  exact ⟨rfl, belN B2 hb3⟩

set_option maxHeartbeats 1000000 in
theorem heldFil_is (lo : Nat) (v : Value) (sz : Int) (n1 : Nat) (h1 : n1 ≤ 10000000) (k : Int) (hk0 : 0 ≤ k) (hk : k ≤ 50000000) (w : World) (h : OwnFil lo v (MkF sz k n1) w) :
    Calls Try.prog 15 #[v, .int .i64 k] w fun e w' => e = .returned (.int .i64 (k + 3 * (n1 : Int))) ∧ Below w.heap.size w w' := by
  obtain ⟨v1, rfl, o1⟩ := h
  have o1 := own_eqn o1 (show (MkF sz k n1).xs.length = n1 by simp [MkF, marksX_len])
  obtain ⟨A1, c1, rfl, _, _, r1⟩ := own_vals o1
  have Hr1 := Lib.hid (fun W (hb : Below w.heap.size w W) => r1.nxt hb)
  clear o1 r1
  simp only [MkF]
  obtain ⟨W1, hW1⟩ : ∃ W1, w.alloc (.cells #[.int .i64 sz, .slice A1 n1 c1] 34) = W1 := ⟨_, rfl⟩
  have X : Blk W1 w.heap.size 34 #[.int .i64 sz, .slice A1 n1 c1] := by rw [← hW1]; exact Blk.new' _ _ _ _ rfl
  have B1 : Below w.heap.size w W1 := by rw [← hW1]; exact belA (bel0 w) _
  have x1 := X.get (x := .slice A1 n1 c1) 1 rfl
  have lX := X.lt
  clear X
  go_enter Try.func15, Try.ntmps15
  go_wp2_with fail
  try rw [hW1]
  clear hW1 x1 lX
  refine (heldExtS_any A1 n1 c1 k hk0 (by omega) h1 _ (Hr1.out _ B1)).mono ?_
  rintro e w2 ⟨rfl, hb2⟩
  have q1 : ¬ (k + 3 * (n1 : Int) < 0) := by omega
  go_wp2
  go_ret
  exact ⟨rfl, belN B1 hb2⟩

end Go.Proofs.Ytajgenjfhcapjaa
