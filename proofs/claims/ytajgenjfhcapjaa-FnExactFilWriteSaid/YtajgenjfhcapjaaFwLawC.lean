/- What a law's functions do to stores and files. -/
import Derived.Test.YtajgenjfhcapjaaFwWrS
namespace Go.Proofs.Ytajgenjfhcapjaa
open Go Go.RowKit

/-- Only blocks between two marks have turned. -/
structure BetwX (lo hi : Nat) (w w' : World) : Prop where
  os : w'.os = w.os
  tape : w'.tape = w.tape
  output : w'.output = w.output
  size : w.heap.size ≤ w'.heap.size
  block : ∀ i, i < w.heap.size → (i < lo ∨ hi ≤ i) → w'.heap[i]? = w.heap[i]?
theorem BetwX.bel {lo hi B : Nat} {w w' : World} (h : BetwX lo hi w w') (h1 : B ≤ lo) (h2 : B ≤ w.heap.size) : Below B w w' :=
  ⟨h.os, h.tape, h.output, h.size, fun i hi' => h.block i (by omega) (.inl (by omega))⟩
theorem BetwX.trans {lo hi : Nat} {a b c : World} (h : BetwX lo hi a b) (k : BetwX lo hi b c) : BetwX lo hi a c :=
  ⟨k.os.trans h.os, k.tape.trans h.tape, k.output.trans h.output, Nat.le_trans h.size k.size, fun i h1 h2 => (k.block i (Nat.lt_of_lt_of_le h1 h.size) h2).trans (h.block i h1 h2)⟩
theorem BetwX.of_grown {lo hi : Nat} {w w' : World} {v : Value} (hg : w.grownBy w' v.ownBlock) (h : ∀ g, v.ownBlock = some g → lo ≤ g ∧ g < hi) : BetwX lo hi w w' :=
  ⟨hg.os, hg.tape, hg.output, hg.size, fun i h1 h2 => hg.block i h1 (fun e => by have := h i e.symm; omega)⟩
theorem BetwX.of_below {lo hi : Nat} {w w' : World} (h : Below w.heap.size w w') : BetwX lo hi w w' := ⟨h.os, h.tape, h.output, h.size, fun i h1 _ => h.block i h1⟩
theorem blk_betw {lo hi g : Nat} {w w' : World} {t : TypeId} {cs : Array Value} (h : Blk w g t cs) (hb : BetwX lo hi w w') (hd : g < lo ∨ hi ≤ g) : Blk w' g t cs := (hb.block g h.lt hd).trans h

/-- All rows of an object lie below a mark. -/
def RowsIn (lo hi : Nat) (v : Value) : Prop := ∀ g, v.ownBlock = some g → lo ≤ g ∧ g < hi
theorem rows_in {w : World} {base n size : Nat} {e : TypeId} {v : Value} {xs : List Value} (h : w.ownsRow base e size v n xs) : RowsIn base w.heap.size v := fun g hg => h.lt g hg
theorem RowsIn.more {lo hi hi' : Nat} {v : Value} (h : RowsIn lo hi v) (hh : hi ≤ hi') : RowsIn lo hi' v := fun g hg => by have := h g hg; omega
theorem own_betwX {w w' : World} {base n size lo hi : Nat} {e : TypeId} {v : Value} {xs : List Value} (h : w.ownsRow base e size v n xs) (hb : BetwX lo hi w w') (hd : ∀ g, v.ownBlock = some g → g < lo ∨ hi ≤ g) : w'.ownsRow base e size v n xs := by
  refine ⟨h.1, ?_⟩
  rcases h.2 with h2 | ⟨g, cap, cur, rfl, hg', hh, r⟩
  · exact .inl h2
  · exact .inr ⟨g, cap, cur, rfl, hg', (hb.block g (Array.getElem?_eq_some_iff.1 hh).1 (hd g rfl)).trans hh, r⟩

/-- A store, a file in rows between two marks. -/
def StoIn (lo hi : Nat) (v : Value) (S : StoD) (w : World) : Prop := hi ≤ w.heap.size ∧ ∃ v1 v2, v = .agg #[v1, v2] ∧ w.ownsRow lo 4 1 v1 S.bs.length (BS S.bs) ∧ w.ownsRow lo 9 1 v2 S.ds.length (SS S.ds) ∧ RowsIn lo hi v1 ∧ RowsIn lo hi v2
def FilIn (lo hi : Nat) (v : Value) (F : FilD) (w : World) : Prop := hi ≤ w.heap.size ∧ ∃ v1, v = .agg #[.int .i64 F.sz, v1] ∧ w.ownsRow lo 76 3 v1 F.xs.length (XS F.xs) ∧ RowsIn lo hi v1
theorem OwnSto.in_ {lo : Nat} {v : Value} {S : StoD} {w : World} (h : OwnSto lo v S w) : StoIn lo w.heap.size v S w := by
  obtain ⟨v1, v2, rfl, h1, h2⟩ := h
  exact ⟨Nat.le_refl _, v1, v2, rfl, h1, h2, rows_in h1, rows_in h2⟩
theorem OwnFil.in_ {lo : Nat} {v : Value} {F : FilD} {w : World} (h : OwnFil lo v F w) : FilIn lo w.heap.size v F w := by
  obtain ⟨v1, rfl, h1⟩ := h
  exact ⟨Nat.le_refl _, v1, rfl, h1, rows_in h1⟩
theorem StoIn.own {lo hi : Nat} {v : Value} {S : StoD} {w : World} (h : StoIn lo hi v S w) : OwnSto lo v S w := by
  obtain ⟨_, v1, v2, e, h1, h2, _⟩ := h
  exact ⟨v1, v2, e, h1, h2⟩
theorem FilIn.own {lo hi : Nat} {v : Value} {F : FilD} {w : World} (h : FilIn lo hi v F w) : OwnFil lo v F w := by
  obtain ⟨_, v1, e, h1, _⟩ := h
  exact ⟨v1, e, h1⟩
theorem StoIn.next {lo hi : Nat} {v : Value} {S : StoD} {w w' : World} (h : StoIn lo hi v S w) (hb : Below w.heap.size w w') : StoIn lo hi v S w' := by
  obtain ⟨h0, v1, v2, e, h1, h2, h3, h4⟩ := h
  exact ⟨Nat.le_trans h0 hb.size, v1, v2, e, own_below h1 hb (Nat.le_refl _), own_below h2 hb (Nat.le_refl _), h3, h4⟩
theorem FilIn.next {lo hi : Nat} {v : Value} {F : FilD} {w w' : World} (h : FilIn lo hi v F w) (hb : Below w.heap.size w w') : FilIn lo hi v F w' := by
  obtain ⟨h0, v1, e, h1, h3⟩ := h
  exact ⟨Nat.le_trans h0 hb.size, v1, e, own_below h1 hb (Nat.le_refl _), h3⟩
theorem StoIn.betw {lo hi lo2 hi2 : Nat} {v : Value} {S : StoD} {w w' : World} (h : StoIn lo hi v S w) (hb : BetwX lo2 hi2 w w') (hd : hi ≤ lo2 ∨ hi2 ≤ lo) : StoIn lo hi v S w' := by
  obtain ⟨h0, v1, v2, e, h1, h2, h3, h4⟩ := h
  exact ⟨Nat.le_trans h0 hb.size, v1, v2, e, own_betwX h1 hb (fun g hg => by have := h3 g hg; omega), own_betwX h2 hb (fun g hg => by have := h4 g hg; omega), h3, h4⟩
theorem FilIn.betw {lo hi lo2 hi2 : Nat} {v : Value} {F : FilD} {w w' : World} (h : FilIn lo hi v F w) (hb : BetwX lo2 hi2 w w') (hd : hi ≤ lo2 ∨ hi2 ≤ lo) : FilIn lo hi v F w' := by
  obtain ⟨h0, v1, e, h1, h3⟩ := h
  exact ⟨Nat.le_trans h0 hb.size, v1, e, own_betwX h1 hb (fun g hg => by have := h3 g hg; omega), h3⟩

/-! ### Sizes -/
def szSto (S : StoD) : Nat := S.bs.length + szT S.ds
def StoBig (S : StoD) : Prop := S.bs.length ≤ 9223372036854775807 ∧ S.ds.length ≤ 9223372036854775807 ∧ ∀ t ∈ S.ds, t.size ≤ 9223372036854775807
theorem sto_sm {S : StoD} (h : szSto S ≤ 1048576) : StoSm S := by
  unfold szSto at h
  have h1 := szT_len S.ds
  exact ⟨by omega, by omega, fun t ht => by have := szT_mem S.ds t ht; omega⟩

set_option maxHeartbeats 1000000 in
theorem szStore_is (v : Value) (S : StoD) (hB : StoBig S) (k : Int) (h0 : 0 ≤ k) (hk : k ≤ 1048576) (w : World) (h : IsSto w v S) :
    Calls Try.prog 4 #[v, .int .i64 k] w fun e w' => ∃ r : Int, e = .returned (.int .i64 r) ∧ (r < 0 ∨ r = k - szSto S) ∧ Below w.heap.size w w' := by
  obtain ⟨A1, c1, A2, c2, rfl, r1, r2⟩ := h
  obtain ⟨W1, hW1⟩ : ∃ W1, w.alloc (.cells #[.slice A1 S.bs.length c1, .slice A2 S.ds.length c2] 25) = W1 := ⟨_, rfl⟩
  have X : Blk W1 w.heap.size 25 #[.slice A1 S.bs.length c1, .slice A2 S.ds.length c2] := by rw [← hW1]; exact Blk.new' _ _ _ _ rfl
  have B1 : Below w.heap.size w W1 := by rw [← hW1]; exact belA (bel0 w) _
  have x0 := X.get (x := .slice A1 S.bs.length c1) 0 rfl
  have lX := X.lt
  have Hr2 := Lib.hid (fun W (hb : Below w.heap.size w W) => r2.nxt hb)
  have HB := Lib.hid hB
  clear r1 r2
  go_enter Try.func4, Try.ntmps4
  go_wp2_with fail
  try rw [hW1]
  clear hW1
  refine (szBoolS_any A1 _ c1 HB.out.1 k h0 hk _).mono ?_
  rintro e w2 ⟨r, rfl, hr, hb2⟩
  have X2 := X.below hb2 X.lt
  have B2 := belN B1 hb2
  clear x0 lX X
  by_cases hneg : r < 0
  · go_wp2
    go_ret
    exact ⟨_, rfl, .inl (by omega), B2⟩
  · have x1 := X2.get (x := .slice A2 S.ds.length c2) 1 rfl
    have lX := X2.lt
    go_wp2_with fail
    refine (szStringS_any A2 _ c2 S.ds HB.out.2.2 HB.out.2.1 r (by omega) (by omega) _ (Hr2.out _ B2)).mono ?_
    rintro e w3 ⟨r3, rfl, hr3, hb3⟩
    by_cases hneg3 : r3 < 0
    · go_wp2
      go_ret
      exact ⟨_, rfl, .inl (by omega), belN B2 hb3⟩
    · go_wp2
      go_ret
      exact ⟨_, rfl, .inr (by unfold szSto; omega), belN B2 hb3⟩

set_option maxHeartbeats 1000000 in
theorem szFil_is (v : Value) (F : FilD) (hB : F.xs.length ≤ 9223372036854775807) (k : Int) (h0 : 0 ≤ k) (hk : k ≤ 1048576) (w : World) (h : IsFil w v F) :
    Calls Try.prog 5 #[v, .int .i64 k] w fun e w' => ∃ r : Int, e = .returned (.int .i64 r) ∧ (r < 0 ∨ r = k - F.xs.length) ∧ Below w.heap.size w w' := by
  obtain ⟨A1, c1, rfl, r1⟩ := h
  obtain ⟨W1, hW1⟩ : ∃ W1, w.alloc (.cells #[.int .i64 F.sz, .slice A1 F.xs.length c1] 28) = W1 := ⟨_, rfl⟩
  have X : Blk W1 w.heap.size 28 #[.int .i64 F.sz, .slice A1 F.xs.length c1] := by rw [← hW1]; exact Blk.new' _ _ _ _ rfl
  have B1 : Below w.heap.size w W1 := by rw [← hW1]; exact belA (bel0 w) _
  have x1 := X.get (x := .slice A1 F.xs.length c1) 1 rfl
  have lX := X.lt
  clear r1
  go_enter Try.func5, Try.ntmps5
  go_wp2_with fail
  try rw [hW1]
  clear hW1
  refine (szExtS_any A1 _ c1 hB k h0 hk _).mono ?_
  rintro e w2 ⟨r, rfl, hr, hb2⟩
  by_cases hneg : r < 0
  · go_wp2
    go_ret
    exact ⟨_, rfl, .inl (by omega), belN B1 hb2⟩
  · go_wp2
    go_ret
    exact ⟨_, rfl, .inr (by omega), belN B1 hb2⟩

/-! ### Copies of the arguments -/
set_option maxRecDepth 100000 in
set_option maxHeartbeats 2000000 in
theorem toStore_is (v : Value) (S : StoD) (hS : StoSm S) (w : World) (h : IsSto w v S) :
    Calls Try.prog 7 #[v] w fun e w' => ∃ v', e = .returned v' ∧ OwnSto w.heap.size v' S w' ∧ Below w.heap.size w w' := by
  obtain ⟨A1, c1, A2, c2, rfl, r1, r2⟩ := h
  obtain ⟨hs1, hs2, _⟩ := hS
  obtain ⟨n1, hl1⟩ : ∃ n, S.bs.length = n := ⟨_, rfl⟩
  obtain ⟨n2, hl2⟩ : ∃ n, S.ds.length = n := ⟨_, rfl⟩
  have Hr1 := Lib.hid (fun W (hb : Below w.heap.size w W) => r1.nxt hb)
  have Hr2 := Lib.hid (fun W (hb : Below w.heap.size w W) => r2.nxt hb)
  rw [hl1] at Hr1 hs1
  rw [hl2] at Hr2 hs2
  rw [hl1, hl2]
  have Hl1 := Lib.hid hl1
  have Hl2 := Lib.hid hl2
  clear r1 r2 hl1 hl2
  obtain ⟨W1, hW1⟩ : ∃ W1, ((w.alloc (.cells #[.slice A1 n1 c1, .slice A2 n2 c2] 25)).alloc (.cells #[.slice none 0 0, .slice none 0 0] 31)).alloc (.cells #[.slice none 0 0, .slice none 0 0] 31) = W1 := ⟨_, rfl⟩
  have X : Blk W1 w.heap.size 25 #[.slice A1 n1 c1, .slice A2 n2 c2] := by rw [← hW1]; exact ((Blk.new' _ _ _ _ rfl).alloc _).alloc _
  have R : Blk W1 (w.heap.size + 1) 31 #[.slice none 0 0, .slice none 0 0] := by rw [← hW1]; exact (Blk.new' _ _ _ _ (by simp)).alloc _
  have O : Blk W1 (w.heap.size + 1 + 1) 31 #[.slice none 0 0, .slice none 0 0] := by rw [← hW1]; exact Blk.new' _ _ _ _ (by simp)
  have B1 : Below w.heap.size w W1 := by rw [← hW1]; exact belA (belA (belA (bel0 w) _) _) _
  have x0 := X.get (x := .slice A1 n1 c1) 0 rfl
  have lX := X.lt
  go_enter Try.func7, Try.ntmps7
  go_wp2_with fail
  try rw [hW1]
  clear hW1 x0 lX
  refine (toBoolS_any A1 n1 c1 S.bs hs1 _ (Hr1.out _ B1)).mono ?_
  rintro e w2 ⟨rfl, own2, hb2⟩
  obtain ⟨gb, hgb⟩ : ∃ g, W1.heap.size = g := ⟨_, rfl⟩
  have B2 := belN B1 hb2
  have X2 := X.below hb2 X.lt
  have R2 := R.below hb2 R.lt
  have O2 := O.below hb2 O.lt
  have lw1 := B1.size
  have O3 := O2.put 0 (.slice (some ⟨W1.heap.size, 0, none⟩) n1 n1) #[.slice (some ⟨W1.heap.size, 0, none⟩) n1 n1, .slice none 0 0] rfl
  have X3 := X2.far (p := ⟨w.heap.size + 1 + 1, 0, none⟩) (by simp only; omega) (.slice (some ⟨W1.heap.size, 0, none⟩) n1 n1)
  have R3 := R2.far (p := ⟨w.heap.size + 1 + 1, 0, none⟩) (by simp only; omega) (.slice (some ⟨W1.heap.size, 0, none⟩) n1 n1)
  have own3 := own_farT own2 O2 (by decide) 0 (.slice (some ⟨W1.heap.size, 0, none⟩) n1 n1)
  have B3 := belC B2 (w.heap.size + 1 + 1) 0 (by omega) (.slice (some ⟨W1.heap.size, 0, none⟩) n1 n1)
  have y0 := O2.get (x := .slice none 0 0) 0 rfl
  have f0 := O2.frozen 0
  have lO := O2.lt
  have x1 := X3.get (x := .slice A2 n2 c2) 1 rfl
  have lX := X3.lt
  obtain ⟨w3, hw3⟩ : ∃ W, w2.setCell ⟨w.heap.size + 1 + 1, 0, none⟩ (.slice (some ⟨W1.heap.size, 0, none⟩) n1 n1) = W := ⟨_, rfl⟩
  rw [hw3] at O3 X3 R3 own3 B3 x1 lX
  rw [hgb] at hw3 O3 own3
  rw [hgb]
  have Own3 := Lib.hid (own_more own3 (by omega : w.heap.size ≤ gb))
  clear X R O X2 R2 O2 own2 own3 hb2 B2 hgb
  go_wp2_with fail
  try rw [hw3]
  clear hw3 y0 f0 lO x1 lX X3
  refine (toStringS_any A2 n2 c2 S.ds hs2 _ (Hr2.out _ B3)).mono ?_
  rintro e w4 ⟨rfl, own4, hb4⟩
  obtain ⟨gs, hgs⟩ : ∃ g, w3.heap.size = g := ⟨_, rfl⟩
  have hws := B3.size
  rw [hgs] at own4 hws ⊢
  have B4 := belN B3 hb4
  have R4 := R3.below hb4 R3.lt
  have O4 := O3.below hb4 O3.lt
  have Own4 := Lib.hid (own_more own4 (by omega : w.heap.size ≤ gs))
  have Own5 := Lib.hid (own_below Own3.out hb4 (Nat.le_refl _))
  have y1 := O4.get (x := .slice none 0 0) 1 rfl
  have f1 := O4.frozen 1
  have lO := O4.lt
  have y0 := O4.get (x := .slice (some ⟨gb, 0, none⟩) n1 n1) 0 rfl
  have r0 := R4.get (x := .slice none 0 0) 0 rfl
  have r1 := R4.get (x := .slice none 0 0) 1 rfl
  have g0 := R4.frozen 0
  have g1 := R4.frozen 1
  have lR := R4.lt
  clear own4 hb4 hgs O3 R3 Own3
  have O5 := O4.put 1 (.slice (some ⟨gs, 0, none⟩) n2 n2) #[.slice (some ⟨gb, 0, none⟩) n1 n1, .slice (some ⟨gs, 0, none⟩) n2 n2] rfl
  have R5 := R4.far (p := ⟨w.heap.size + 1 + 1, 1, none⟩) (by simp only; omega) (.slice (some ⟨gs, 0, none⟩) n2 n2)
  have Own6 := Lib.hid (own_farT (own_farT (own_farT Own4.out O4 (by decide) 1 (.slice (some ⟨gs, 0, none⟩) n2 n2)) R5 (by decide) 0 (.slice (some ⟨gb, 0, none⟩) n1 n1)) (R5.put 0 _ _ rfl) (by decide) 1 (.slice (some ⟨gs, 0, none⟩) n2 n2))
  have Own7 := Lib.hid (own_farT (own_farT (own_farT Own5.out O4 (by decide) 1 (.slice (some ⟨gs, 0, none⟩) n2 n2)) R5 (by decide) 0 (.slice (some ⟨gb, 0, none⟩) n1 n1)) (R5.put 0 _ _ rfl) (by decide) 1 (.slice (some ⟨gs, 0, none⟩) n2 n2))
  have B5 := Lib.hid (belC (belC (belC B4 (w.heap.size + 1 + 1) 1 (by omega) (.slice (some ⟨gs, 0, none⟩) n2 n2)) (w.heap.size + 1) 0 (by omega) (.slice (some ⟨gb, 0, none⟩) n1 n1)) (w.heap.size + 1) 1 (by omega) (.slice (some ⟨gs, 0, none⟩) n2 n2))
  clear O5 R5 Own4 Own5 B4 B3 B1 O4 R4
  go_wp2
  refine bodyPost_ret (v := .agg #[.slice (some ⟨gb, 0, none⟩) n1 n1, .slice (some ⟨gs, 0, none⟩) n2 n2]) (by simp [results, Try.results7, go_sem, r0, r1]) rfl ⟨_, rfl, ⟨_, _, rfl, by rw [Hl1.out]; exact Own7.out, by rw [Hl2.out]; exact Own6.out⟩, B5.out⟩

end Go.Proofs.Ytajgenjfhcapjaa
