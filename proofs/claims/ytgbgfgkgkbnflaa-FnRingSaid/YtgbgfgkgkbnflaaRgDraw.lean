/- What is drawn: the cursor over a code, numbers, texts, spoiled texts. -/
import Derived.Test.YtgbgfgkgkbnflaaStrs
import Derived.Test.YtgbgfgkgkbnflaaRegH
import Derived.StillTailTactics
namespace Go.Proofs.Ytgbgfgkgkbnflaa
open Go Go.RowKit

/-- 'and' with a mask lies within it. -/
theorem and_bd (x : Int) (M : Nat) (hM : M < 4611686018427387904) : 0 ≤ bits .and .i64 x (M : Int) ∧ bits .and .i64 x (M : Int) ≤ M := by
  have h1 : ((BitVec.ofInt 64 x) &&& (BitVec.ofInt 64 (M : Int))).toNat ≤ M := by
    rw [BitVec.toNat_and]
    refine Nat.le_trans Nat.and_le_right ?_
    rw [BitVec.ofInt_natCast, BitVec.toNat_ofNat]
    exact Nat.mod_le _ _
  have h2 : bits .and .i64 x (M : Int) = IntKind.i64.wrap (((BitVec.ofInt 64 x) &&& (BitVec.ofInt 64 (M : Int))).toNat : Int) := rfl
  rw [h2, IntKind.wrap_i64]
  omega

/-- A cursor over a code. -/
def Curs (w : World) (g : Nat) (A : Option Addr) (n cp : Nat) (bs : List UInt8) : Prop :=
  ∃ (i : Nat) (h : Int), i ≤ n ∧ Blk w g 58 #[.slice A n cp, .int .i64 i, .int .i64 h] ∧ Reads w g 1 A n (B8 bs)
theorem Curs.lt {w : World} {g : Nat} {A : Option Addr} {n cp : Nat} {bs : List UInt8} (h : Curs w g A n cp bs) : g < w.heap.size := by
  obtain ⟨i, h, _, hb, _⟩ := h
  exact hb.lt
theorem Curs.below {w w' : World} {g : Nat} {A : Option Addr} {n cp : Nat} {bs : List UInt8} (h : Curs w g A n cp bs) (hb : Below w.heap.size w w') : Curs w' g A n cp bs := by
  have hl := h.lt
  obtain ⟨i, h, hi, hk, hr⟩ := h
  exact ⟨i, h, hi, hk.below hb hk.lt, hr.below (hb.mono (Nat.le_of_lt hl))⟩
theorem Reads.sc {w : World} {B size n : Nat} {A : Option Addr} {xs : List Value} (h : Reads w B size A n xs) {g : Nat} (hg : B ≤ g) (o : Nat) (x : Value) : Reads (w.setCell ⟨g, o, none⟩ x) B size A n xs :=
  h.below ((Below.refl B w).setCell (p := ⟨g, o, none⟩) hg x)

set_option maxRecDepth 100000 in
set_option maxHeartbeats 2000000 in
theorem l1Byte_any (g : Nat) (A : Option Addr) (n cp : Nat) (bs : List UInt8) (hn : n ≤ 9223372036854775806) (w : World) (h : Curs w g A n cp bs) :
    Calls Try.prog 36 #[.pointer (some ⟨g, 0, none⟩)] w fun e w' => ∃ x : Int, e = .returned (.int .i64 x) ∧ 0 ≤ x ∧ x ≤ 255 ∧ Curs w' g A n cp bs ∧ w.grownBy w' (some g) := by
  obtain ⟨i, h, hi, hk, hr⟩ := h
  have x2 := hk.get (x := .int .i64 h) 2 rfl
  have y2 := hk.frozen 2
  have lk := hk.lt
  go_enter Try.func36, Try.ntmps36
  go_upto_region 2 with fail
  obtain ⟨h', hh⟩ : ∃ h', wrap64 (wrap64 (h * 6364136223846793005) + 1442695040888963407) = h' := ⟨_, rfl⟩
  simp only [hh]
  clear hh
  obtain ⟨W1, hW1⟩ : ∃ W, w.setCell ⟨g, 2, none⟩ (.int .i64 h') = W := ⟨_, rfl⟩
  have hk1 : Blk W1 g 58 #[.slice A n cp, .int .i64 i, .int .i64 h'] := by rw [← hW1]; exact hk.put 2 (.int .i64 h') _ rfl
  have hr1 : Reads W1 g 1 A n (B8 bs) := by rw [← hW1]; exact hr.sc (Nat.le_refl _) 2 _
  have hg1 : w.grownBy W1 (some g) := by rw [← hW1]; exact only_sc (grown_refl w (some g)) 2 (.int .i64 h')
  rw [hW1]
  clear hW1 x2 y2 hk hr
  have lk1 := hk1.lt
  have x0 := hk1.get (x := .slice A n cp) 0 rfl
  have x1 := hk1.get (x := .int .i64 i) 1 rfl
  have x2 := hk1.get (x := .int .i64 h') 2 rfl
  go_still (by kernel_rfl)
  change Exit.then _ _ Exit.normal _ W1.drew
  clear x2
  obtain ⟨W2, hW2⟩ : ∃ W, W1.drew = W := ⟨_, rfl⟩
  rw [hW2]
  have hk2 : Blk W2 g 58 #[.slice A n cp, .int .i64 i, .int .i64 h'] := by rw [← hW2]; exact hk1.drew
  have hr2 : Reads W2 g 1 A n (B8 bs) := by rw [← hW2]; exact hr1
  have hg2 : w.grownBy W2 (some g) := by rw [← hW2]; exact ⟨hg1.os, hg1.tape, hg1.output, hg1.size, hg1.block⟩
  clear hW2 x0 x1 lk1 hk1 hr1 hg1
  have lk2 := hk2.lt
  have x0 := hk2.get (x := .slice A n cp) 0 rfl
  have x1 := hk2.get (x := .int .i64 i) 1 rfl
  obtain ⟨X, hX⟩ : ∃ X, bits .and .i64 (bits .xor .i64 (h' / 8589934592) (h' / 35184372088832)) 255 = X := ⟨_, rfl⟩
  have hXb : 0 ≤ X ∧ X ≤ 255 := by rw [← hX]; exact and_bd _ 255 (by omega)
  simp only [hX]
  clear hX
  by_cases hlt : i < n
  · have hI : (i : Int) < (n : Int) := by omega
    have q0 : (0 : Int) ≤ (i : Int) := by omega
    obtain ⟨b, ad, rfl, z0⟩ : ∃ (b : UInt8) (ad : Addr), A = some ad ∧ W2.cell? (ad.add i) = some (.int .u8 b.toNat) := by
      obtain ⟨ad, hA, _, hc⟩ := hr2.2 (by omega)
      have hl := hr2.1
      have h2 : (B8 bs).length = bs.length := by simp [B8]
      have h3 := hc i (.int .u8 (bs[i]'(by omega)).toNat) (by simp [B8, show i < bs.length by omega])
      exact ⟨_, ad, hA, h3⟩
    go_wp2_with fail
    go_still (by kernel_rfl)
    change Exit.then _ _ Exit.normal _ W2.drew
    obtain ⟨W3, hW3⟩ : ∃ W, W2.drew = W := ⟨_, rfl⟩
    rw [hW3]
    have hk3 : Blk W3 g 58 #[.slice (some ad) n cp, .int .i64 i, .int .i64 h'] := by rw [← hW3]; exact hk2.drew
    have hr3 : Reads W3 g 1 (some ad) n (B8 bs) := by rw [← hW3]; exact hr2
    have hg3 : w.grownBy W3 (some g) := by rw [← hW3]; exact ⟨hg2.os, hg2.tape, hg2.output, hg2.size, hg2.block⟩
    have z0 : W3.cell? (ad.add i) = some (.int .u8 b.toNat) := by rw [← hW3]; exact z0
    clear hW3 x0 x1 lk2 hk2 hr2 hg2
    have lk3 := hk3.lt
    have x0 := hk3.get (x := .slice (some ad) n cp) 0 rfl
    have x1 := hk3.get (x := .int .i64 i) 1 rfl
    go_wp2_with fail
    go_still (by kernel_rfl)
    change Exit.then _ _ Exit.normal _ W3.drew
    obtain ⟨W4, hW4⟩ : ∃ W, W3.drew = W := ⟨_, rfl⟩
    rw [hW4]
    have hk4 : Blk W4 g 58 #[.slice (some ad) n cp, .int .i64 i, .int .i64 h'] := by rw [← hW4]; exact hk3.drew
    have hr4 : Reads W4 g 1 (some ad) n (B8 bs) := by rw [← hW4]; exact hr3
    have hg4 : w.grownBy W4 (some g) := by rw [← hW4]; exact ⟨hg3.os, hg3.tape, hg3.output, hg3.size, hg3.block⟩
    have z0 : W4.cell? (ad.add i) = some (.int .u8 b.toNat) := by rw [← hW4]; exact z0
    clear hW4 x0 x1 lk3 hk3 hr3 hg3
    have lk4 := hk4.lt
    have x0 := hk4.get (x := .slice (some ad) n cp) 0 rfl
    have x1 := hk4.get (x := .int .i64 i) 1 rfl
    obtain ⟨Y, hY⟩ : ∃ Y, bits .and .i64 (IntKind.i64.wrap (X + IntKind.i64.wrap (b.toNat : Int))) 255 = Y := ⟨_, rfl⟩
    have hYb : 0 ≤ Y ∧ Y ≤ 255 := by rw [← hY]; exact and_bd _ 255 (by omega)
    simp only [hY]
    clear hY
    have y1 := hk4.frozen 1
    have H2 := Lib.hid (hk4.put 1 (.int .i64 ((i : Int) + 1)) #[.slice (some ad) n cp, .int .i64 ((i + 1 : Nat) : Int), .int .i64 h'] rfl)
    have H3 := Lib.hid (hr4.sc (Nat.le_refl _) 1 (.int .i64 ((i : Int) + 1)))
    have H4 := Lib.hid (only_sc hg4 1 (.int .i64 ((i : Int) + 1)))
    go_wp2
    go_ret
    exact ⟨_, rfl, hYb.1, hYb.2, ⟨i + 1, h', by omega, H2.out, H3.out⟩, ⟨H4.out.os, H4.out.tape, H4.out.output, H4.out.size, H4.out.block⟩⟩
  · have hI : ¬ ((i : Int) < (n : Int)) := by omega
    go_wp2_with fail
    go_still (by kernel_rfl)
    change Exit.then _ _ Exit.normal _ W2.drew
    obtain ⟨W3, hW3⟩ : ∃ W, W2.drew = W := ⟨_, rfl⟩
    rw [hW3]
    have hk3 : Blk W3 g 58 #[.slice A n cp, .int .i64 i, .int .i64 h'] := by rw [← hW3]; exact hk2.drew
    have hr3 : Reads W3 g 1 A n (B8 bs) := by rw [← hW3]; exact hr2
    have hg3 : w.grownBy W3 (some g) := by rw [← hW3]; exact ⟨hg2.os, hg2.tape, hg2.output, hg2.size, hg2.block⟩
    clear hW3 x0 x1 lk2 hk2 hr2 hg2
    have lk3 := hk3.lt
    have x0 := hk3.get (x := .slice A n cp) 0 rfl
    have x1 := hk3.get (x := .int .i64 i) 1 rfl
    go_wp2
    go_ret
    exact ⟨_, rfl, hXb.1, hXb.2, ⟨i, h', hi, hk3, hr3⟩, hg3⟩

/-- Numbers as cells. -/
def II (l : List Int) : List Value := l.map fun n => .int .i64 n
theorem II_append (a b : List Int) : II (a ++ b) = II a ++ II b := by simp [II]
theorem II_length (l : List Int) : (II l).length = l.length := by simp [II]
theorem II_get (l : List Int) (k : Nat) (h : k < l.length) : (II l)[k]? = some (.int .i64 l[k]) := by simp [II, h]
theorem II_of (l : List Nat) : I64 l = II (l.map fun (n : Nat) => (n : Int)) := by simp [II, I64]
theorem II_cells (l : List Int) : ∀ u ∈ II l, u.oneCell' = true := by
  intro u hu
  simp only [II, List.mem_map] at hu
  obtain ⟨b, _, rfl⟩ := hu
  rfl
theorem reads_at {w : World} {B n : Nat} {A : Option Addr} {xs : List Int} (h : Reads w B 1 A n (II xs)) {k : Nat} (hk : k < n) : ∃ (hk' : k < xs.length) (ad : Addr), A = some ad ∧ ad.block < B ∧ w.cell? (ad.add k) = some (.int .i64 xs[k]) := by
  obtain ⟨ad, u, h1, h2, h3, h4⟩ := h.at_ hk
  have hl : k < xs.length := by have := h.1; rw [II_length] at this; omega
  rw [II_get _ _ hl] at h3
  injection h3 with h3
  exact ⟨hl, ad, h1, h2, by rw [h4, h3]⟩


theorem add_blk (ad : Addr) (k : Nat) : (ad.add k).block = ad.block := by unfold Addr.add; split <;> rfl
theorem Curs.alloc {w : World} {g : Nat} {A : Option Addr} {n cp : Nat} {bs : List UInt8} (h : Curs w g A n cp bs) (o : Obj) : Curs (w.alloc o) g A n cp bs := h.below (belA (bel0 w) o)

set_option maxRecDepth 100000 in
set_option maxHeartbeats 2000000 in
theorem l1New_any (A : Option Addr) (n cp : Nat) (bs : List UInt8) (hn : n ≤ 9223372036854775806) (w : World) (hr : Reads w w.heap.size 1 A n (B8 bs)) :
    Calls Try.prog 14 #[.slice A n cp] w fun e w' => ∃ g, e = .returned (.pointer (some ⟨g, 0, none⟩)) ∧ w.heap.size ≤ g ∧ Curs w' g A n cp bs ∧ Below w.heap.size w w' := by
  have Hr := Lib.hid hr
  clear hr
  go_enter Try.func14, Try.ntmps14
  go_wp2
  go_loopw [3, 4] (fun h i wr => ∃ (q : Nat) (hv : Int), q ≤ n ∧ i = .int .i64 q ∧ h = .int .i64 hv ∧ Below w.heap.size w wr)
    (fun _ i _ => n - (intOf i).toNat)
  case atStart => exact ⟨0, _, by omega, rfl, rfl, bel0 w⟩
  case round =>
    obtain ⟨q, hv, hq, rfl, rfl, hbel⟩ := hrel
    by_cases hlt : q < n
    · have hI : (q : Int) < (n : Int) := by omega
      have q0 : (0 : Int) ≤ (q : Int) := by omega
      obtain ⟨b, ad, rfl, z0⟩ : ∃ (b : UInt8) (ad : Addr), A = some ad ∧ wr.cell? (ad.add q) = some (.int .u8 b.toNat) := by
        obtain ⟨ad, hA, _, hc⟩ := (Hr.out.below hbel).2 (by omega)
        have hl := Hr.out.1
        have h2 : (B8 bs).length = bs.length := by simp [B8]
        have h3 := hc q (.int .u8 (bs[q]'(by omega)).toNat) (by simp [B8, show q < bs.length by omega])
        exact ⟨_, ad, hA, h3⟩
      by_cases h4 : (q : Int) < 4000
      · go_wp2
        first
          | exact ⟨⟨q + 1, _, by omega, by go_num, rfl, hbel⟩, by simp [intOf]; omega⟩
          | (go_roundw; case rel => exact ⟨q + 1, _, by omega, by go_num, rfl, hbel⟩; case measure => (simp [intOf]; omega))
      · go_wp2
        go_ret
        exact ⟨wr.heap.size, rfl, hbel.size, ⟨0, hv, Nat.zero_le _, Blk.new' _ _ _ _ rfl, ((Hr.out.below hbel).more hbel.size).below (belA (bel0 wr) _)⟩, belA hbel _⟩
    · have hI : ¬ ((q : Int) < (n : Int)) := by omega
      go_wp2
      go_ret
      exact ⟨wr.heap.size, rfl, hbel.size, ⟨0, hv, Nat.zero_le _, Blk.new' _ _ _ _ rfl, ((Hr.out.below hbel).more hbel.size).below (belA (bel0 wr) _)⟩, belA hbel _⟩

set_option maxRecDepth 100000 in
set_option maxHeartbeats 2000000 in
theorem l1Below_any (g : Nat) (A : Option Addr) (n cp : Nat) (bs : List UInt8) (hn : n ≤ 9223372036854775806) (m : Int) (hm : m ≤ 4611686018427387904) (w : World) (h : Curs w g A n cp bs) :
    Calls Try.prog 19 #[.pointer (some ⟨g, 0, none⟩), .int .i64 m] w fun e w' => ∃ x : Int, e = .returned (.int .i64 x) ∧ (m ≤ 0 → x = 0) ∧ (0 < m → 0 ≤ x ∧ x < m) ∧ Curs w' g A n cp bs ∧ w.grownBy w' (some g) := by
  have Hb := Lib.hid (fun W hW => l1Byte_any g A n cp bs hn W hW)
  by_cases h0 : m ≤ 0
  · go_enter Try.func19, Try.ntmps19
    go_wp2
    go_ret
    exact ⟨0, rfl, fun _ => rfl, fun h => by omega, h, grown_refl w _⟩
  · by_cases h1 : m ≤ 256
    · go_enter Try.func19, Try.ntmps19
      go_wp2_with fail
      refine (Hb.out w h).mono ?_
      rintro e w1 ⟨x, rfl, hx0, hx1, hc1, hg1⟩
      have mz : ¬ (m = 0) := by omega
      have mt : x.tmod m = x % m := Int.tmod_eq_emod_of_nonneg hx0
      have m0 := Int.emod_nonneg x mz
      have m1 := Int.emod_lt_of_pos x (show 0 < m by omega)
      go_wp2
      go_ret
      exact ⟨_, rfl, fun h => by omega, fun _ => by constructor <;> omega, hc1, hg1⟩
    · go_enter Try.func19, Try.ntmps19
      go_wp2_with fail
      refine (Hb.out w h).mono ?_
      rintro e w1 ⟨x, rfl, hx0, hx1, hc1, hg1⟩
      go_wp2_with fail
      refine (Hb.out w1 hc1).mono ?_
      rintro e w2 ⟨y, rfl, hy0, hy1, hc2, hg2⟩
      go_wp2_with fail
      refine (Hb.out w2 hc2).mono ?_
      rintro e w3 ⟨z, rfl, hz0, hz1, hc3, hg3⟩
      go_wp2_with fail
      refine (Hb.out w3 hc3).mono ?_
      rintro e w4 ⟨u, rfl, hu0, hu1, hc4, hg4⟩
      have mz : ¬ (m = 0) := by omega
      obtain ⟨S, hS⟩ : ∃ S, x * 16777216 + y * 65536 + z * 256 + u = S := ⟨_, rfl⟩
      have S0 : 0 ≤ S := by omega
      have S1 : S ≤ 4294967295 := by omega
      have mt : S.tmod m = S % m := Int.tmod_eq_emod_of_nonneg S0
      have m0 := Int.emod_nonneg S mz
      have m1 := Int.emod_lt_of_pos S (show 0 < m by omega)
      go_wp2
      go_ret
      exact ⟨_, rfl, fun h => by omega, fun _ => by constructor <;> omega, hc4, ((hg1.trans hg2).trans hg3).trans hg4⟩

set_option maxHeartbeats 1000000 in
theorem l1Once_any (g : Nat) (A : Option Addr) (n cp : Nat) (bs : List UInt8) (hn : n ≤ 9223372036854775806) (m : Int) (hm : m ≤ 4611686018427387904) (w : World) (h : Curs w g A n cp bs) :
    Calls Try.prog 32 #[.pointer (some ⟨g, 0, none⟩), .int .i64 m] w fun e w' => ∃ b : Bool, e = .returned (.bool b) ∧ Curs w' g A n cp bs ∧ w.grownBy w' (some g) := by
  have Hb := Lib.hid (fun W hW => l1Below_any g A n cp bs hn m hm W hW)
  go_enter Try.func32, Try.ntmps32
  go_wp2_with fail
  refine (Hb.out w h).mono ?_
  rintro e w1 ⟨x, rfl, _, _, hc1, hg1⟩
  go_wp2
  go_ret
  exact ⟨_, rfl, hc1, hg1⟩

set_option maxHeartbeats 1000000 in
theorem l1PickInt_any (g : Nat) (A : Option Addr) (n cp : Nat) (bs : List UInt8) (hn : n ≤ 9223372036854775806) (AL : Option Addr) (m cl : Nat) (xs : List Int) (hm : 0 < m) (hm2 : m ≤ 1000000) (w : World) (h : Curs w g A n cp bs) (hl : Reads w w.heap.size 1 AL m (II xs)) (hne : ∀ ad, AL = some ad → ad.block ≠ g) :
    Calls Try.prog 33 #[.pointer (some ⟨g, 0, none⟩), .slice AL m cl] w fun e w' => ∃ x : Int, e = .returned (.int .i64 x) ∧ x ∈ xs ∧ Curs w' g A n cp bs ∧ w.grownBy w' (some g) := by
  have Hb := Lib.hid (fun W hW => l1Below_any g A n cp bs hn (m : Int) (by omega) W hW)
  have Hl := Lib.hid hl
  have Hne := Lib.hid hne
  clear hl hne
  go_enter Try.func33, Try.ntmps33
  go_wp2_with fail
  refine (Hb.out w h).mono ?_
  rintro e w1 ⟨x, rfl, _, hx, hc1, hg1⟩
  obtain ⟨hx0, hx1⟩ := hx (by omega)
  obtain ⟨k, rfl⟩ : ∃ k : Nat, x = (k : Int) := ⟨x.toNat, by omega⟩
  obtain ⟨hk', ad, rfl, hadb, hc⟩ := reads_at Hl.out (k := k) (by omega)
  have hz : w1.cell? (ad.add k) = some (.int .i64 xs[k]) := by
    rw [World.cell?_of_block (w := w) (hg1.block _ (by rw [add_blk]; exact hadb) (by rw [add_blk]; intro e; injection e with e; exact Hne.out ad rfl e))]
    exact hc
  go_wp2
  go_ret
  exact ⟨_, rfl, List.getElem_mem hk', hc1, hg1⟩

theorem reads_lit (w : World) (cs : Array Value) (e : TypeId) (m : Nat) (hs : cs.size = m) : Reads (w.alloc (.cells cs e)) (w.alloc (.cells cs e)).heap.size 1 (some ⟨w.heap.size, 0, none⟩) m cs.toList := by
  have h := reads_new (w := w) cs e 1 m (by omega)
  exact h.more (by simp)
theorem gb_al {w w' : World} {g : Nat} {o : Obj} (h : (w.alloc o).grownBy w' (some g)) : w.grownBy w' (some g) := by
  refine ⟨h.os, h.tape, h.output, Nat.le_trans (by simp) h.size, fun i hi hn => (h.block i (by simp; omega) hn).trans (Below.heap_alloc w o i hi)⟩

theorem gb_bel0 {a w w1 : World} {g : Nat} (h : a.grownBy w (some g)) (hb : Below a.heap.size w w1) : a.grownBy w1 (some g) :=
  ⟨hb.os.trans h.os, hb.tape.trans h.tape, hb.output.trans h.output, Nat.le_trans h.size hb.size, fun i hi hn => (hb.block i hi).trans (h.block i hi hn)⟩
theorem Curs.bel {w w' : World} {B g : Nat} {A : Option Addr} {n cp : Nat} {bs : List UInt8} (h : Curs w g A n cp bs) (hb : Below B w w') (hB : g < B) : Curs w' g A n cp bs := by
  obtain ⟨i, h, hi, hk, hr⟩ := h
  exact ⟨i, h, hi, hk.below hb hB, hr.below (hb.mono (Nat.le_of_lt hB))⟩
theorem own_g {w w' : World} {base n size g : Nat} {e : TypeId} {v : Value} {xs : List Value} (h : w.ownsRow base e size v n xs) (hg : w.grownBy w' (some g)) (hgb : g < base) : w'.ownsRow base e size v n xs :=
  h.kept hg (by
    rcases hv : v.ownBlock with _ | k
    · exact .inl rfl
    · right; intro he; injection he with he; have := (h.lt k hv).1; omega)

set_option maxRecDepth 100000 in
set_option maxHeartbeats 4000000 in
theorem l1Text_any (g : Nat) (A : Option Addr) (n cp : Nat) (bs : List UInt8) (hn : n ≤ 9223372036854775806) (most : Nat) (hm : most ≤ 1000) (w : World) (h : Curs w g A n cp bs) :
    Calls Try.prog 31 #[.pointer (some ⟨g, 0, none⟩), .int .i64 most] w fun e w' => ∃ s : ByteArray, e = .returned (.string s) ∧ s.size ≤ most ∧ Curs w' g A n cp bs ∧ w.grownBy w' (some g) := by
  have Hb := Lib.hid (fun m hm W hW => l1Below_any g A n cp bs hn m hm W hW)
  have Hy := Lib.hid (fun W hW => l1Byte_any g A n cp bs hn W hW)
  have hlt := h.lt
  have own0 := World.ownsRow_lit (e := 5) (size := 1) w #[] 0 (Nat.le_refl _) (by unfold maxLen; omega) rfl
  go_enter Try.func31, Try.ntmps31
  go_wp2_with fail
  refine (Hb.out 4 (by omega) _ (h.alloc _)).mono ?_
  rintro e w0 ⟨y, rfl, _, hy, hc0, hg0⟩
  obtain ⟨hy0, hy1⟩ := hy (by omega)
  have own1 := own_g own0 hg0 hlt
  have G0 := gb_al hg0
  clear hy own0
  go_wp2_with fail
  refine (Hb.out _ (by omega) _ hc0).mono ?_
  rintro e w1 ⟨x, rfl, _, hx, hc1, hg1⟩
  obtain ⟨hx0, hx1⟩ := hx (by omega)
  obtain ⟨k, rfl⟩ : ∃ k : Nat, x = (k : Int) := ⟨x.toNat, by omega⟩
  have Own1 := Lib.hid (own_g own1 hg1 hlt)
  have G1 := G0.trans hg1
  clear own1 hx
  go_wp2
  go_loopw [5, 7] (fun v i wr => ∃ (k : Nat) (l : List UInt8), i = .int .i64 k ∧ k + l.length ≤ most ∧ Hid (wr.ownsRow w.heap.size 5 1 v l.length (B8 l)) ∧ Curs wr g A n cp bs ∧ w.grownBy wr (some g))
    (fun _ i _ => (intOf i).toNat)
  case atStart => exact ⟨k, [], rfl, by simp; omega, Own1.out, hc1, G1⟩
  case round =>
    clear Own1 hc1 G1 hg1
    obtain ⟨k, l, rfl, hk, Own, hc, G⟩ := hrel
    by_cases h0 : k = 0
    · subst h0
      have hcv := run_convert_own Try.underlying22 Try.underlying5 Try.underlying9 Own.out
      go_wp2
      go_ret
      exact ⟨_, rfl, by rw [str_size]; omega, hc, G⟩
    · have hk0 : (k : Int) > 0 := by omega
      go_wp2_with fail
      refine (Hy.out _ hc).mono ?_
      rintro e w2 ⟨x, rfl, x8, x9, hc2, hg2⟩
      have Own2 := Lib.hid (own_g Own.out hg2 hlt)
      have G2 := G.trans hg2
      have sz := G2.size
      have wk : IntKind.i64.wrap ((k : Int) - 1) = ((k - 1 : Nat) : Int) := by rw [IntKind.wrap_i64]; omega
      rcases (show y = 0 ∨ y = 1 ∨ y = 2 ∨ y = 3 by omega) with rfl | rfl | rfl | rfl
      · have hsz := x9
        obtain ⟨b, hbv, hbb⟩ := byte_ex (x) (x.toNat) (by omega) (by omega)
        go_wp2_with (at_builtin; go_must (refine wpList_app _ rfl _ _ _ rfl Try.el_u8 (Own2.out.alloc _) rfl (reads_new _ _ _ _ 1 (by rfl)) rfl (B8_cells [b]) (max_small (by omega)) (by omega) (by simp; omega) ?_); intro v3 w3 own3 hg3 _ hb3)
        have own4 : w3.ownsRow w.heap.size 5 1 v3 (l ++ [b]).length (B8 (l ++ [b])) := by rw [B8_append, List.length_append]; exact own3
        have hb4 : Below w.heap.size w2 w3 := ((Below.refl w.heap.size w2).alloc sz (.cells #[.int .u8 b.toNat] 5)).trans hb3
        have hc4 := hc2.bel hb4 hlt
        have G4 := gb_bel0 G2 hb4
        have Own4 := Lib.hid own4
        clear own3 own4
        go_wp2
        first
          | exact ⟨⟨k - 1, l ++ [b], by go_num, by simp; omega, Own4.out, hc4, G4⟩, by simp [intOf]; omega⟩
          | (go_roundw; case rel => exact ⟨k - 1, l ++ [b], by go_num, by simp; omega, Own4.out, hc4, G4⟩; case measure => (simp [intOf]; omega))
      · have hsz := x9
        have mt : x.tmod 2 = x % 2 := Int.tmod_eq_emod_of_nonneg x8
        obtain ⟨b, hbv, hbb⟩ := byte_ex (x % 2) (x.toNat % 2) (by omega) (by omega)
        go_wp2_with (at_builtin; go_must (refine wpList_app _ rfl _ _ _ rfl Try.el_u8 (Own2.out.alloc _) rfl (reads_new _ _ _ _ 1 (by rfl)) rfl (B8_cells [b]) (max_small (by omega)) (by omega) (by simp; omega) ?_); intro v3 w3 own3 hg3 _ hb3)
        have own4 : w3.ownsRow w.heap.size 5 1 v3 (l ++ [b]).length (B8 (l ++ [b])) := by rw [B8_append, List.length_append]; exact own3
        have hb4 : Below w.heap.size w2 w3 := ((Below.refl w.heap.size w2).alloc sz (.cells #[.int .u8 b.toNat] 5)).trans hb3
        have hc4 := hc2.bel hb4 hlt
        have G4 := gb_bel0 G2 hb4
        have Own4 := Lib.hid own4
        clear own3 own4
        go_wp2
        first
          | exact ⟨⟨k - 1, l ++ [b], by go_num, by simp; omega, Own4.out, hc4, G4⟩, by simp [intOf]; omega⟩
          | (go_roundw; case rel => exact ⟨k - 1, l ++ [b], by go_num, by simp; omega, Own4.out, hc4, G4⟩; case measure => (simp [intOf]; omega))
      · have hsz := x9
        have mt : x.tmod 4 = x % 4 := Int.tmod_eq_emod_of_nonneg x8
        obtain ⟨b, hbv, hbb⟩ := byte_ex (97 + x % 4) (97 + x.toNat % 4) (by omega) (by omega)
        go_wp2_with (at_builtin; go_must (refine wpList_app _ rfl _ _ _ rfl Try.el_u8 (Own2.out.alloc _) rfl (reads_new _ _ _ _ 1 (by rfl)) rfl (B8_cells [b]) (max_small (by omega)) (by omega) (by simp; omega) ?_); intro v3 w3 own3 hg3 _ hb3)
        have own4 : w3.ownsRow w.heap.size 5 1 v3 (l ++ [b]).length (B8 (l ++ [b])) := by rw [B8_append, List.length_append]; exact own3
        have hb4 : Below w.heap.size w2 w3 := ((Below.refl w.heap.size w2).alloc sz (.cells #[.int .u8 b.toNat] 5)).trans hb3
        have hc4 := hc2.bel hb4 hlt
        have G4 := gb_bel0 G2 hb4
        have Own4 := Lib.hid own4
        clear own3 own4
        go_wp2
        first
          | exact ⟨⟨k - 1, l ++ [b], by go_num, by simp; omega, Own4.out, hc4, G4⟩, by simp [intOf]; omega⟩
          | (go_roundw; case rel => exact ⟨k - 1, l ++ [b], by go_num, by simp; omega, Own4.out, hc4, G4⟩; case measure => (simp [intOf]; omega))
      · have hsz := x9
        obtain ⟨b, hbv, hbb⟩ := byte_ex (x) (x.toNat) (by omega) (by omega)
        go_wp2_with (at_builtin; go_must (refine wpList_app _ rfl _ _ _ rfl Try.el_u8 (Own2.out.alloc _) rfl (reads_new _ _ _ _ 1 (by rfl)) rfl (B8_cells [b]) (max_small (by omega)) (by omega) (by simp; omega) ?_); intro v3 w3 own3 hg3 _ hb3)
        have own4 : w3.ownsRow w.heap.size 5 1 v3 (l ++ [b]).length (B8 (l ++ [b])) := by rw [B8_append, List.length_append]; exact own3
        have hb4 : Below w.heap.size w2 w3 := ((Below.refl w.heap.size w2).alloc sz (.cells #[.int .u8 b.toNat] 5)).trans hb3
        have hc4 := hc2.bel hb4 hlt
        have G4 := gb_bel0 G2 hb4
        have Own4 := Lib.hid own4
        clear own3 own4
        go_wp2
        first
          | exact ⟨⟨k - 1, l ++ [b], by go_num, by simp; omega, Own4.out, hc4, G4⟩, by simp [intOf]; omega⟩
          | (go_roundw; case rel => exact ⟨k - 1, l ++ [b], by go_num, by simp; omega, Own4.out, hc4, G4⟩; case measure => (simp [intOf]; omega))


theorem Curs.drew {w : World} {g : Nat} {A : Option Addr} {n cp : Nat} {bs : List UInt8} (h : Curs w g A n cp bs) : Curs w.drew g A n cp bs := h.below (bel0 w).drew
theorem gb_dr {w w' : World} {g : Nat} (h : w.drew.grownBy w' (some g)) : w.grownBy w' (some g) := ⟨h.os, h.tape, h.output, h.size, h.block⟩
theorem gb_rd {w w' : World} {g : Nat} (h : w.grownBy w' (some g)) : w.grownBy w'.drew (some g) := ⟨h.os, h.tape, h.output, h.size, h.block⟩

/-- What a spoiled text may be. -/
def Spoilt (s t : ByteArray) : Prop := (s.size = 0 ∧ t.size ≤ 3) ∨ ∃ k, k < s.size ∧
  (t = s.extract 0 k ++ s.extract (k + 1) s.size ∨ (∃ x : ByteArray, x.size = 1 ∧ t = s.extract 0 k ++ x ++ s.extract k s.size) ∨ t = s.extract 0 k ∨ ∃ x : ByteArray, x.size = 1 ∧ t = s.extract 0 k ++ x ++ s.extract (k + 1) s.size)
theorem conv_any (v : Int) (W : World) : ∃ t : ByteArray, t.size = 1 ∧
    (convert 22 9 (.slice (some ⟨W.heap.size, 0, none⟩) 1 1)).run Try.prog (W.alloc (.cells #[.int .u8 (IntKind.u8.wrap v)] 5)) = .ok (.string t) (W.alloc (.cells #[.int .u8 (IntKind.u8.wrap v)] 5)) := by
  obtain ⟨b, hb, _⟩ := byte_ex (IntKind.u8.wrap v) (IntKind.u8.wrap v).toNat (by rw [IntKind.wrap_u8]; omega) (by rw [IntKind.wrap_u8]; omega)
  rw [hb]
  exact ⟨str [b], rfl, conv_lit b W _ rfl⟩

set_option maxRecDepth 100000 in
set_option maxHeartbeats 8000000 in
theorem l1Spoil_any (g : Nat) (A : Option Addr) (n cp : Nat) (bs : List UInt8) (hn : n ≤ 9223372036854775806) (s : ByteArray) (hs : s.size ≤ 2000000) (w : World) (h : Curs w g A n cp bs) :
    Calls Try.prog 20 #[.pointer (some ⟨g, 0, none⟩), .string s] w fun e w' => ∃ t : ByteArray, e = .returned (.string t) ∧ Spoilt s t ∧ Curs w' g A n cp bs ∧ w.grownBy w' (some g) := by
  have Hb := Lib.hid (fun m hm W hW => l1Below_any g A n cp bs hn m hm W hW)
  have Hy := Lib.hid (fun W hW => l1Byte_any g A n cp bs hn W hW)
  have Ht := Lib.hid (fun W hW => l1Text_any g A n cp bs hn 3 (by omega) W hW)
  by_cases h0 : s.size = 0
  · have hz : ((s.size : Int) == 0) = true := by simp [h0]
    go_enter Try.func20, Try.ntmps20
    go_wp2_with fail
    refine (Ht.out w h).mono ?_
    rintro e w1 ⟨t, rfl, ht, hc1, hg1⟩
    go_wp2
    go_ret
    exact ⟨t, rfl, .inl ⟨h0, ht⟩, hc1, hg1⟩
  · have hz : ((s.size : Int) == 0) = false := by simp [h0]
    go_enter Try.func20, Try.ntmps20
    go_wp2_with fail
    refine (Hb.out (s.size : Int) (by omega) w h).mono ?_
    rintro e w1 ⟨x, rfl, _, hx, hc1, hg1⟩
    obtain ⟨hx0, hx1⟩ := hx (by omega)
    obtain ⟨k, rfl⟩ : ∃ k : Nat, x = (k : Int) := ⟨x.toNat, by omega⟩
    have hk : k < s.size := by omega
    clear hx
    go_wp2_with fail
    refine (Hb.out 4 (by omega) w1 hc1).mono ?_
    rintro e w2 ⟨y, rfl, _, hy, hc2, hg2⟩
    obtain ⟨hy0, hy1⟩ := hy (by omega)
    have G2 := hg1.trans hg2
    have q0 : (0 : Int) ≤ (k : Int) := by omega
    have q1 : (k : Int) ≤ (s.size : Int) := by omega
    have q2 : (0 : Int) ≤ (k : Int) + 1 := by omega
    have q3 : (k : Int) + 1 ≤ (s.size : Int) := by omega
    have q4 : (k : Int) < (s.size : Int) := by omega
    have wk : IntKind.i64.wrap ((k : Int) + 1) = (k : Int) + 1 := by rw [IntKind.wrap_i64]; omega
    have e1 : (s.extract 0 k).size = k := by rw [ByteArray.size_extract]; omega
    have e2 : (s.extract (k + 1) s.size).size = s.size - (k + 1) := by rw [ByteArray.size_extract]; omega
    have e3 : (s.extract k s.size).size = s.size - k := by rw [ByteArray.size_extract]; omega
    have b1 : ¬ (9223372036854775807 < k + 1) := by omega
    have b2 : ¬ (9223372036854775807 < k + 1 + (s.size - k)) := by omega
    have b3 : ¬ (9223372036854775807 < k + (s.size - (k + 1))) := by omega
    have b4 : ¬ (9223372036854775807 < k + 1 + (s.size - (k + 1))) := by omega
    rcases (show y = 0 ∨ y = 1 ∨ y = 2 ∨ y = 3 by omega) with rfl | rfl | rfl | rfl
    · go_wp2_with fail
      go_still (by kernel_rfl)
      change Exit.then _ _ Exit.normal _ w2.drew
      go_wp2
      go_ret
      exact ⟨_, rfl, .inr ⟨k, hk, .inl rfl⟩, hc2.drew, gb_rd G2⟩
    · go_wp2_with fail
      refine wp_region_held_drew (S := fun _ => True) (by kernel_rfl) trivial (fun hHeld => ?_)
      refine wpAnyH_take (i := 0) (oi := ?oi1) (v := ?v1) ?hi1 ?hs1 ?hf1 ?hr1 ?hQ1 ?hy1 ?hS1 ?hrest1
      case hi1 => (conv => lhs; simp only [List.getElem?_toArray, List.getElem?_cons_zero]); try exact rfl
      case hs1 => kernel_rfl
      case hf1 => kernel_rfl
      case hr1 => kernel_rfl
      case hQ1 => exact fun _ _ _ h => h
      case hS1 => assumption
      case hy1 => refine Or.inl ⟨by rfl, ?_⟩; intro w hSw; (try dsimp only at hSw); go_simp; (try with_reducible rfl)
      simp only [Act.put, List.setIfInBounds_toArray, List.set_cons_zero, List.set_cons_succ]
      refine wpAnyH_take (i := 1) (oi := ?oi2) (v := ?v2) ?hi2 ?hs2 ?hf2 ?hr2 ?hQ2 ?hy2 ?hS2 ?hrest2
      case hi2 => (conv => lhs; simp only [List.getElem?_toArray, List.getElem?_cons_zero, List.getElem?_cons_succ]); try exact rfl
      case hs2 => kernel_rfl
      case hf2 => kernel_rfl
      case hr2 => kernel_rfl
      case hQ2 => exact fun _ _ _ h => h
      case hS2 => assumption
      case hy2 => refine Or.inl ⟨by rfl, ?_⟩; intro w hSw; (try dsimp only at hSw); go_simp; (try with_reducible rfl)
      simp only [Act.put, List.setIfInBounds_toArray, List.set_cons_zero, List.set_cons_succ]
      refine wpAnyH_take (i := 2) (oi := ?oi3) (v := ?v3) ?hi3 ?hs3 ?hf3 ?hr3 ?hQ3 ?hy3 ?hS3 ?hrest3
      case hi3 => (conv => lhs; simp only [List.getElem?_toArray, List.getElem?_cons_zero, List.getElem?_cons_succ]); try exact rfl
      case hs3 => kernel_rfl
      case hf3 => kernel_rfl
      case hr3 => kernel_rfl
      case hQ3 => exact fun _ _ _ h => h
      case hS3 => assumption
      case hy3 => refine Or.inl ⟨by rfl, ?_⟩; intro w hSw; (try dsimp only at hSw); go_simp; (try with_reducible rfl)
      simp only [Act.put, List.setIfInBounds_toArray, List.set_cons_zero, List.set_cons_succ]
      refine wpAnyH_take (i := 3) (oi := ?oi4) (v := ?v4) ?hi4 ?hs4 ?hf4 ?hr4 ?hQ4 ?hy4 ?hS4 ?hrest4
      case hi4 => (conv => lhs; simp only [List.getElem?_toArray, List.getElem?_cons_zero, List.getElem?_cons_succ]); try exact rfl
      case hs4 => kernel_rfl
      case hf4 => kernel_rfl
      case hr4 => kernel_rfl
      case hQ4 => exact fun _ _ _ h => h
      case hS4 => assumption
      case hy4 => refine Or.inl ⟨by rfl, ?_⟩; intro w hSw; (try dsimp only at hSw); go_simp; (try with_reducible rfl)
      simp only [Act.put, List.setIfInBounds_toArray, List.set_cons_zero, List.set_cons_succ]
      refine wpAnyH_take (i := 9) (oi := ?oi5) (v := ?v5) ?hi5 ?hs5 ?hf5 ?hr5 ?hQ5 ?hy5 ?hS5 ?hrest5
      case hi5 => (conv => lhs; simp only [List.getElem?_toArray, List.getElem?_cons_zero, List.getElem?_cons_succ]); try exact rfl
      case hs5 => kernel_rfl
      case hf5 => kernel_rfl
      case hr5 => kernel_rfl
      case hQ5 => exact fun _ _ _ h => h
      case hS5 => assumption
      case hy5 => refine Or.inl ⟨by rfl, ?_⟩; intro w hSw; (try dsimp only at hSw); go_simp; (try with_reducible rfl)
      simp only [Act.put, List.setIfInBounds_toArray, List.set_cons_zero, List.set_cons_succ]
      refine wpAnyH_take (i := 10) (oi := ?oi6) (v := ?v6) ?hi6 ?hs6 ?hf6 ?hr6 ?hQ6 ?hy6 ?hS6 ?hrest6
      case hi6 => (conv => lhs; simp only [List.getElem?_toArray, List.getElem?_cons_zero, List.getElem?_cons_succ]); try exact rfl
      case hs6 => kernel_rfl
      case hf6 => kernel_rfl
      case hr6 => kernel_rfl
      case hQ6 => exact fun _ _ _ h => h
      case hS6 => assumption
      case hy6 => refine Or.inl ⟨by rfl, ?_⟩; intro w hSw; (try dsimp only at hSw); go_simp; (try with_reducible rfl)
      simp only [Act.put, List.setIfInBounds_toArray, List.set_cons_zero, List.set_cons_succ]
      refine wpAnyH_take (i := 11) (oi := ?oi7) (v := ?v7) ?hi7 ?hs7 ?hf7 ?hr7 ?hQ7 ?hy7 ?hS7 ?hrest7
      case hi7 => (conv => lhs; simp only [List.getElem?_toArray, List.getElem?_cons_zero, List.getElem?_cons_succ]); try exact rfl
      case hs7 => kernel_rfl
      case hf7 => kernel_rfl
      case hr7 => kernel_rfl
      case hQ7 => exact fun _ _ _ h => h
      case hS7 => assumption
      case hy7 => refine Or.inl ⟨by rfl, ?_⟩; intro w hSw; (try dsimp only at hSw); go_simp; (try with_reducible rfl)
      simp only [Act.put, List.setIfInBounds_toArray, List.set_cons_zero, List.set_cons_succ]
      refine wpAnyH_ready (rs := [4]) (by kernel_rfl) (by simp) ?_
      refine AllReadyH.cons (o := ?oi8) ?hi8 (fun K hK => ?_) AllReadyH.nil
      case hi8 => (conv => lhs; simp only [List.getElem?_toArray, List.getElem?_cons_zero, List.getElem?_cons_succ]); try exact rfl
      go_simp
      go_at_call 36
      refine (Hy.out _ hc2.drew).mono ?_
      rintro e w5 ⟨z, rfl, z0, z1, hc5, hg5⟩
      obtain ⟨t5, ht5, hcv⟩ := conv_any z w5
      refine hK.out _ _ trivial (fun hHeld8 => ?_)
      clear hK K
      try simp only [Act.put, List.setIfInBounds_toArray, List.set_cons_zero, List.set_cons_succ]
      refine wpAnyH_take (i := 5) (oi := ?oi9) (v := ?v9) ?hi9 ?hs9 ?hf9 ?hr9 ?hQ9 ?hy9 ?hS9 ?hrest9
      case hi9 => (conv => lhs; simp only [List.getElem?_toArray, List.getElem?_cons_zero, List.getElem?_cons_succ]); try exact rfl
      case hs9 => kernel_rfl
      case hf9 => kernel_rfl
      case hr9 => kernel_rfl
      case hQ9 => exact fun _ _ _ h => h
      case hS9 => assumption
      case hy9 => refine Or.inl ⟨by rfl, ?_⟩; intro w hSw; (try dsimp only at hSw); go_simp; (try with_reducible rfl)
      simp only [Act.put, List.setIfInBounds_toArray, List.set_cons_zero, List.set_cons_succ]
      refine wpAnyH_ready (rs := [6]) (by kernel_rfl) (by simp) ?_
      refine AllReadyH.cons (o := ?oi10) ?hi10 (fun K hK => ?_) AllReadyH.nil
      case hi10 => (conv => lhs; simp only [List.getElem?_toArray, List.getElem?_cons_zero, List.getElem?_cons_succ]); try exact rfl
      go_simp
      refine hK.out _ _ trivial (fun hHeld10 => ?_)
      clear hK K
      try simp only [Act.put, List.setIfInBounds_toArray, List.set_cons_zero, List.set_cons_succ]
      refine wpAnyH_ready (rs := [7]) (by kernel_rfl) (by simp) ?_
      refine AllReadyH.cons (o := ?oi11) ?hi11 (fun K hK => ?_) AllReadyH.nil
      case hi11 => (conv => lhs; simp only [List.getElem?_toArray, List.getElem?_cons_zero, List.getElem?_cons_succ]); try exact rfl
      go_simp
      refine hK.out _ _ trivial (fun hHeld11 => ?_)
      clear hK K
      try simp only [Act.put, List.setIfInBounds_toArray, List.set_cons_zero, List.set_cons_succ]
      refine wpAnyH_ready (rs := [8]) (by kernel_rfl) (by simp) ?_
      refine AllReadyH.cons (o := ?oi12) ?hi12 (fun K hK => ?_) AllReadyH.nil
      case hi12 => (conv => lhs; simp only [List.getElem?_toArray, List.getElem?_cons_zero, List.getElem?_cons_succ]); try exact rfl
      go_simp
      refine hK.out _ _ trivial (fun hHeld12 => ?_)
      clear hK K
      try simp only [Act.put, List.setIfInBounds_toArray, List.set_cons_zero, List.set_cons_succ]
      refine wpAnyH_ready (rs := [12]) (by kernel_rfl) (by simp) ?_
      refine AllReadyH.cons (o := ?oi13) ?hi13 (fun K hK => ?_) AllReadyH.nil
      case hi13 => (conv => lhs; simp only [List.getElem?_toArray, List.getElem?_cons_zero, List.getElem?_cons_succ]); try exact rfl
      go_simp
      refine hK.out _ _ trivial (fun hHeld13 => ?_)
      clear hK K
      try simp only [Act.put, List.setIfInBounds_toArray, List.set_cons_zero, List.set_cons_succ]
      refine wpAnyH_take (i := 13) (oi := ?oi14) (v := ?v14) ?hi14 ?hs14 ?hf14 ?hr14 ?hQ14 ?hy14 ?hS14 ?hrest14
      case hi14 => (conv => lhs; simp only [List.getElem?_toArray, List.getElem?_cons_zero, List.getElem?_cons_succ]); try exact rfl
      case hs14 => kernel_rfl
      case hf14 => kernel_rfl
      case hr14 => kernel_rfl
      case hQ14 => exact fun _ _ _ h => h
      case hS14 => assumption
      case hy14 => refine Or.inl ⟨by rfl, ?_⟩; intro w hSw; (try dsimp only at hSw); go_simp; (try with_reducible rfl)
      simp only [Act.put, List.setIfInBounds_toArray, List.set_cons_zero, List.set_cons_succ]
      refine wpAnyH_done (by kernel_rfl) ?_ _
      go_wp2
      go_ret
      exact ⟨_, rfl, .inr ⟨k, hk, .inr (.inl ⟨t5, ht5, rfl⟩)⟩, hc5.alloc _, gb_below (G2.trans (gb_dr hg5)) (belA (bel0 _) _)⟩
    · go_wp2
      go_ret
      exact ⟨_, rfl, .inr ⟨k, hk, .inr (.inr (.inl rfl))⟩, hc2, G2⟩
    · go_wp2_with fail
      refine wp_region_held_drew (S := fun _ => True) (by kernel_rfl) trivial (fun hHeld => ?_)
      refine wpAnyH_take (i := 0) (oi := ?oi101) (v := ?v101) ?hi101 ?hs101 ?hf101 ?hr101 ?hQ101 ?hy101 ?hS101 ?hrest101
      case hi101 => (conv => lhs; simp only [List.getElem?_toArray, List.getElem?_cons_zero]); try exact rfl
      case hs101 => kernel_rfl
      case hf101 => kernel_rfl
      case hr101 => kernel_rfl
      case hQ101 => exact fun _ _ _ h => h
      case hS101 => assumption
      case hy101 => refine Or.inl ⟨by rfl, ?_⟩; intro w hSw; (try dsimp only at hSw); go_simp; (try with_reducible rfl)
      simp only [Act.put, List.setIfInBounds_toArray, List.set_cons_zero, List.set_cons_succ]
      refine wpAnyH_take (i := 1) (oi := ?oi102) (v := ?v102) ?hi102 ?hs102 ?hf102 ?hr102 ?hQ102 ?hy102 ?hS102 ?hrest102
      case hi102 => (conv => lhs; simp only [List.getElem?_toArray, List.getElem?_cons_zero, List.getElem?_cons_succ]); try exact rfl
      case hs102 => kernel_rfl
      case hf102 => kernel_rfl
      case hr102 => kernel_rfl
      case hQ102 => exact fun _ _ _ h => h
      case hS102 => assumption
      case hy102 => refine Or.inl ⟨by rfl, ?_⟩; intro w hSw; (try dsimp only at hSw); go_simp; (try with_reducible rfl)
      simp only [Act.put, List.setIfInBounds_toArray, List.set_cons_zero, List.set_cons_succ]
      refine wpAnyH_take (i := 2) (oi := ?oi103) (v := ?v103) ?hi103 ?hs103 ?hf103 ?hr103 ?hQ103 ?hy103 ?hS103 ?hrest103
      case hi103 => (conv => lhs; simp only [List.getElem?_toArray, List.getElem?_cons_zero, List.getElem?_cons_succ]); try exact rfl
      case hs103 => kernel_rfl
      case hf103 => kernel_rfl
      case hr103 => kernel_rfl
      case hQ103 => exact fun _ _ _ h => h
      case hS103 => assumption
      case hy103 => refine Or.inl ⟨by rfl, ?_⟩; intro w hSw; (try dsimp only at hSw); go_simp; (try with_reducible rfl)
      simp only [Act.put, List.setIfInBounds_toArray, List.set_cons_zero, List.set_cons_succ]
      refine wpAnyH_take (i := 3) (oi := ?oi104) (v := ?v104) ?hi104 ?hs104 ?hf104 ?hr104 ?hQ104 ?hy104 ?hS104 ?hrest104
      case hi104 => (conv => lhs; simp only [List.getElem?_toArray, List.getElem?_cons_zero, List.getElem?_cons_succ]); try exact rfl
      case hs104 => kernel_rfl
      case hf104 => kernel_rfl
      case hr104 => kernel_rfl
      case hQ104 => exact fun _ _ _ h => h
      case hS104 => assumption
      case hy104 => refine Or.inl ⟨by rfl, ?_⟩; intro w hSw; (try dsimp only at hSw); go_simp; (try with_reducible rfl)
      simp only [Act.put, List.setIfInBounds_toArray, List.set_cons_zero, List.set_cons_succ]
      refine wpAnyH_take (i := 4) (oi := ?oi105) (v := ?v105) ?hi105 ?hs105 ?hf105 ?hr105 ?hQ105 ?hy105 ?hS105 ?hrest105
      case hi105 => (conv => lhs; simp only [List.getElem?_toArray, List.getElem?_cons_zero, List.getElem?_cons_succ]); try exact rfl
      case hs105 => kernel_rfl
      case hf105 => kernel_rfl
      case hr105 => kernel_rfl
      case hQ105 => exact fun _ _ _ h => h
      case hS105 => assumption
      case hy105 => refine Or.inl ⟨by rfl, ?_⟩; intro w hSw; (try dsimp only at hSw); go_simp; (try with_reducible rfl)
      simp only [Act.put, List.setIfInBounds_toArray, List.set_cons_zero, List.set_cons_succ]
      refine wpAnyH_take (i := 7) (oi := ?oi106) (v := ?v106) ?hi106 ?hs106 ?hf106 ?hr106 ?hQ106 ?hy106 ?hS106 ?hrest106
      case hi106 => (conv => lhs; simp only [List.getElem?_toArray, List.getElem?_cons_zero, List.getElem?_cons_succ]); try exact rfl
      case hs106 => kernel_rfl
      case hf106 => kernel_rfl
      case hr106 => kernel_rfl
      case hQ106 => exact fun _ _ _ h => h
      case hS106 => assumption
      case hy106 => refine Or.inl ⟨by rfl, ?_⟩; intro w hSw; (try dsimp only at hSw); go_simp; (try with_reducible rfl)
      simp only [Act.put, List.setIfInBounds_toArray, List.set_cons_zero, List.set_cons_succ]
      refine wpAnyH_take (i := 15) (oi := ?oi107) (v := ?v107) ?hi107 ?hs107 ?hf107 ?hr107 ?hQ107 ?hy107 ?hS107 ?hrest107
      case hi107 => (conv => lhs; simp only [List.getElem?_toArray, List.getElem?_cons_zero, List.getElem?_cons_succ]); try exact rfl
      case hs107 => kernel_rfl
      case hf107 => kernel_rfl
      case hr107 => kernel_rfl
      case hQ107 => exact fun _ _ _ h => h
      case hS107 => assumption
      case hy107 => refine Or.inl ⟨by rfl, ?_⟩; intro w hSw; (try dsimp only at hSw); go_simp; (try with_reducible rfl)
      simp only [Act.put, List.setIfInBounds_toArray, List.set_cons_zero, List.set_cons_succ]
      refine wpAnyH_take (i := 16) (oi := ?oi108) (v := ?v108) ?hi108 ?hs108 ?hf108 ?hr108 ?hQ108 ?hy108 ?hS108 ?hrest108
      case hi108 => (conv => lhs; simp only [List.getElem?_toArray, List.getElem?_cons_zero, List.getElem?_cons_succ]); try exact rfl
      case hs108 => kernel_rfl
      case hf108 => kernel_rfl
      case hr108 => kernel_rfl
      case hQ108 => exact fun _ _ _ h => h
      case hS108 => assumption
      case hy108 => refine Or.inl ⟨by rfl, ?_⟩; intro w hSw; (try dsimp only at hSw); go_simp; (try with_reducible rfl)
      simp only [Act.put, List.setIfInBounds_toArray, List.set_cons_zero, List.set_cons_succ]
      refine wpAnyH_take (i := 17) (oi := ?oi109) (v := ?v109) ?hi109 ?hs109 ?hf109 ?hr109 ?hQ109 ?hy109 ?hS109 ?hrest109
      case hi109 => (conv => lhs; simp only [List.getElem?_toArray, List.getElem?_cons_zero, List.getElem?_cons_succ]); try exact rfl
      case hs109 => kernel_rfl
      case hf109 => kernel_rfl
      case hr109 => kernel_rfl
      case hQ109 => exact fun _ _ _ h => h
      case hS109 => assumption
      case hy109 => refine Or.inl ⟨by rfl, ?_⟩; intro w hSw; (try dsimp only at hSw); go_simp; (try with_reducible rfl)
      simp only [Act.put, List.setIfInBounds_toArray, List.set_cons_zero, List.set_cons_succ]
      refine wpAnyH_take (i := 18) (oi := ?oi110) (v := ?v110) ?hi110 ?hs110 ?hf110 ?hr110 ?hQ110 ?hy110 ?hS110 ?hrest110
      case hi110 => (conv => lhs; simp only [List.getElem?_toArray, List.getElem?_cons_zero, List.getElem?_cons_succ]); try exact rfl
      case hs110 => kernel_rfl
      case hf110 => kernel_rfl
      case hr110 => kernel_rfl
      case hQ110 => exact fun _ _ _ h => h
      case hS110 => assumption
      case hy110 => refine Or.inl ⟨by rfl, ?_⟩; intro w hSw; (try dsimp only at hSw); go_simp; (try with_reducible rfl)
      simp only [Act.put, List.setIfInBounds_toArray, List.set_cons_zero, List.set_cons_succ]
      refine wpAnyH_take (i := 5) (oi := ?oi111) (v := ?v111) ?hi111 ?hs111 ?hf111 ?hr111 ?hQ111 ?hy111 ?hS111 ?hrest111
      case hi111 => (conv => lhs; simp only [List.getElem?_toArray, List.getElem?_cons_zero, List.getElem?_cons_succ]); try exact rfl
      case hs111 => kernel_rfl
      case hf111 => kernel_rfl
      case hr111 => kernel_rfl
      case hQ111 => exact fun _ _ _ h => h
      case hS111 => assumption
      case hy111 => refine Or.inl ⟨by rfl, ?_⟩; intro w hSw; (try dsimp only at hSw); go_simp; (try with_reducible rfl)
      simp only [Act.put, List.setIfInBounds_toArray, List.set_cons_zero, List.set_cons_succ]
      refine wpAnyH_take (i := 6) (oi := ?oi112) (v := ?v112) ?hi112 ?hs112 ?hf112 ?hr112 ?hQ112 ?hy112 ?hS112 ?hrest112
      case hi112 => (conv => lhs; simp only [List.getElem?_toArray, List.getElem?_cons_zero, List.getElem?_cons_succ]); try exact rfl
      case hs112 => kernel_rfl
      case hf112 => kernel_rfl
      case hr112 => kernel_rfl
      case hQ112 => exact fun _ _ _ h => h
      case hS112 => assumption
      case hy112 => refine Or.inl ⟨by rfl, ?_⟩; intro w hSw; (try dsimp only at hSw); go_simp; (try with_reducible rfl)
      simp only [Act.put, List.setIfInBounds_toArray, List.set_cons_zero, List.set_cons_succ]
      refine wpAnyH_ready (rs := [8]) (by kernel_rfl) (by simp) ?_
      refine AllReadyH.cons (o := ?oi113) ?hi113 (fun K hK => ?_) AllReadyH.nil
      case hi113 => (conv => lhs; simp only [List.getElem?_toArray, List.getElem?_cons_zero, List.getElem?_cons_succ]); try exact rfl
      go_simp
      go_at_call 19
      refine (Hb.out 255 (by omega) _ hc2.drew).mono ?_
      rintro e w5 ⟨z, rfl, _, hz5, hc5, hg5⟩
      obtain ⟨t5, ht5, hcv⟩ := conv_any (bits BinOp.xor IntKind.i64 (IntKind.i64.wrap ((s[k]'hk).toNat : Int)) (IntKind.i64.wrap (1 + z))) w5
      refine hK.out _ _ trivial (fun hHeld113 => ?_)
      clear hK K
      try simp only [Act.put, List.setIfInBounds_toArray, List.set_cons_zero, List.set_cons_succ]
      refine wpAnyH_take (i := 9) (oi := ?oi114) (v := ?v114) ?hi114 ?hs114 ?hf114 ?hr114 ?hQ114 ?hy114 ?hS114 ?hrest114
      case hi114 => (conv => lhs; simp only [List.getElem?_toArray, List.getElem?_cons_zero, List.getElem?_cons_succ]); try exact rfl
      case hs114 => kernel_rfl
      case hf114 => kernel_rfl
      case hr114 => kernel_rfl
      case hQ114 => exact fun _ _ _ h => h
      case hS114 => assumption
      case hy114 => refine Or.inl ⟨by rfl, ?_⟩; intro w hSw; (try dsimp only at hSw); go_simp; (try with_reducible rfl)
      simp only [Act.put, List.setIfInBounds_toArray, List.set_cons_zero, List.set_cons_succ]
      refine wpAnyH_take (i := 10) (oi := ?oi115) (v := ?v115) ?hi115 ?hs115 ?hf115 ?hr115 ?hQ115 ?hy115 ?hS115 ?hrest115
      case hi115 => (conv => lhs; simp only [List.getElem?_toArray, List.getElem?_cons_zero, List.getElem?_cons_succ]); try exact rfl
      case hs115 => kernel_rfl
      case hf115 => kernel_rfl
      case hr115 => kernel_rfl
      case hQ115 => exact fun _ _ _ h => h
      case hS115 => assumption
      case hy115 => refine Or.inl ⟨by rfl, ?_⟩; intro w hSw; (try dsimp only at hSw); go_simp; (try with_reducible rfl)
      simp only [Act.put, List.setIfInBounds_toArray, List.set_cons_zero, List.set_cons_succ]
      refine wpAnyH_take (i := 11) (oi := ?oi116) (v := ?v116) ?hi116 ?hs116 ?hf116 ?hr116 ?hQ116 ?hy116 ?hS116 ?hrest116
      case hi116 => (conv => lhs; simp only [List.getElem?_toArray, List.getElem?_cons_zero, List.getElem?_cons_succ]); try exact rfl
      case hs116 => kernel_rfl
      case hf116 => kernel_rfl
      case hr116 => kernel_rfl
      case hQ116 => exact fun _ _ _ h => h
      case hS116 => assumption
      case hy116 => refine Or.inl ⟨by rfl, ?_⟩; intro w hSw; (try dsimp only at hSw); go_simp; (try with_reducible rfl)
      simp only [Act.put, List.setIfInBounds_toArray, List.set_cons_zero, List.set_cons_succ]
      refine wpAnyH_ready (rs := [12]) (by kernel_rfl) (by simp) ?_
      refine AllReadyH.cons (o := ?oi117) ?hi117 (fun K hK => ?_) AllReadyH.nil
      case hi117 => (conv => lhs; simp only [List.getElem?_toArray, List.getElem?_cons_zero, List.getElem?_cons_succ]); try exact rfl
      go_simp
      refine hK.out _ _ trivial (fun hHeld117 => ?_)
      clear hK K
      try simp only [Act.put, List.setIfInBounds_toArray, List.set_cons_zero, List.set_cons_succ]
      refine wpAnyH_ready (rs := [13]) (by kernel_rfl) (by simp) ?_
      refine AllReadyH.cons (o := ?oi118) ?hi118 (fun K hK => ?_) AllReadyH.nil
      case hi118 => (conv => lhs; simp only [List.getElem?_toArray, List.getElem?_cons_zero, List.getElem?_cons_succ]); try exact rfl
      go_simp
      refine hK.out _ _ trivial (fun hHeld118 => ?_)
      clear hK K
      try simp only [Act.put, List.setIfInBounds_toArray, List.set_cons_zero, List.set_cons_succ]
      refine wpAnyH_ready (rs := [14]) (by kernel_rfl) (by simp) ?_
      refine AllReadyH.cons (o := ?oi119) ?hi119 (fun K hK => ?_) AllReadyH.nil
      case hi119 => (conv => lhs; simp only [List.getElem?_toArray, List.getElem?_cons_zero, List.getElem?_cons_succ]); try exact rfl
      go_simp
      refine hK.out _ _ trivial (fun hHeld119 => ?_)
      clear hK K
      try simp only [Act.put, List.setIfInBounds_toArray, List.set_cons_zero, List.set_cons_succ]
      refine wpAnyH_ready (rs := [19]) (by kernel_rfl) (by simp) ?_
      refine AllReadyH.cons (o := ?oi120) ?hi120 (fun K hK => ?_) AllReadyH.nil
      case hi120 => (conv => lhs; simp only [List.getElem?_toArray, List.getElem?_cons_zero, List.getElem?_cons_succ]); try exact rfl
      go_simp
      refine hK.out _ _ trivial (fun hHeld120 => ?_)
      clear hK K
      try simp only [Act.put, List.setIfInBounds_toArray, List.set_cons_zero, List.set_cons_succ]
      refine wpAnyH_take (i := 20) (oi := ?oi121) (v := ?v121) ?hi121 ?hs121 ?hf121 ?hr121 ?hQ121 ?hy121 ?hS121 ?hrest121
      case hi121 => (conv => lhs; simp only [List.getElem?_toArray, List.getElem?_cons_zero, List.getElem?_cons_succ]); try exact rfl
      case hs121 => kernel_rfl
      case hf121 => kernel_rfl
      case hr121 => kernel_rfl
      case hQ121 => exact fun _ _ _ h => h
      case hS121 => assumption
      case hy121 => refine Or.inl ⟨by rfl, ?_⟩; intro w hSw; (try dsimp only at hSw); go_simp; (try with_reducible rfl)
      simp only [Act.put, List.setIfInBounds_toArray, List.set_cons_zero, List.set_cons_succ]
      refine wpAnyH_done (by kernel_rfl) ?_ _
      go_wp2
      go_ret
      exact ⟨_, rfl, .inr ⟨k, hk, .inr (.inr (.inr ⟨t5, ht5, rfl⟩))⟩, hc5.alloc _, gb_below (G2.trans (gb_dr hg5)) (belA (bel0 _) _)⟩

end Go.Proofs.Ytgbgfgkgkbnflaa
