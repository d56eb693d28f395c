/- What is drawn: the cursor over a code, bytes of it, numbers below a bound. -/
import Derived.Test.YtpnmmigoencbdaaDoorStrs
import Derived.Test.YtpnmmigoencbdaaDoorRegH
import Derived.StillTailTactics
namespace Go.Proofs.YtpnmmigoencbdaaDoor
open Go Go.RowKit

/-- 'and' with a mask lies within it. -/
theorem and_bd (x : Int) (M : Nat) (hM : M < 4611686018427387904) : 0 ≤ bits .and .i64 x (M : Int) ∧ bits .and .i64 x (M : Int) ≤ M := by
  have h1 : ((BitVec.ofInt 64 x) &&& (BitVec.ofInt 64 (M : Int))).toNat ≤ M := by
    rw [BitVec.toNat_and]
    refine Nat.le_trans Nat.and_le_right ?_
    rw [BitVec.ofInt_natCast, BitVec.toNat_ofNat]
    exact Nat.mod_le _ _
  have h2 : bits .and .i64 x (M : Int) = IntKind.i64.wrap (((BitVec.ofInt 64 x) &&& (BitVec.ofInt 64 (M : Int))).toNat : Int) := rfl
  rw [h2, IntKind.wrap_i64]
  omega

/-- A cursor over a code. -/
def Curs (w : World) (g : Nat) (A : Option Addr) (n cp : Nat) (bs : List UInt8) : Prop :=
  ∃ (i : Nat) (h : Int), i ≤ n ∧ Blk w g 70 #[.slice A n cp, .int .i64 i, .int .i64 h] ∧ Reads w g 1 A n (B8 bs)
theorem Curs.lt {w : World} {g : Nat} {A : Option Addr} {n cp : Nat} {bs : List UInt8} (h : Curs w g A n cp bs) : g < w.heap.size := by
  obtain ⟨i, h, _, hb, _⟩ := h
  exact hb.lt
theorem Curs.below {w w' : World} {g : Nat} {A : Option Addr} {n cp : Nat} {bs : List UInt8} (h : Curs w g A n cp bs) (hb : Below w.heap.size w w') : Curs w' g A n cp bs := by
  have hl := h.lt
  obtain ⟨i, h, hi, hk, hr⟩ := h
  exact ⟨i, h, hi, hk.below hb hk.lt, hr.below (hb.mono (Nat.le_of_lt hl))⟩
theorem Reads.sc {w : World} {B size n : Nat} {A : Option Addr} {xs : List Value} (h : Reads w B size A n xs) {g : Nat} (hg : B ≤ g) (o : Nat) (x : Value) : Reads (w.setCell ⟨g, o, none⟩ x) B size A n xs :=
  h.below ((Below.refl B w).setCell (p := ⟨g, o, none⟩) hg x)

set_option maxRecDepth 100000 in
set_option maxHeartbeats 2000000 in
theorem l1Byte_any (g : Nat) (A : Option Addr) (n cp : Nat) (bs : List UInt8) (hn : n ≤ 9223372036854775806) (w : World) (h : Curs w g A n cp bs) :
    Calls Tryd.prog 58 #[.pointer (some ⟨g, 0, none⟩)] w fun e w' => ∃ x : Int, e = .returned (.int .i64 x) ∧ 0 ≤ x ∧ x ≤ 255 ∧ Curs w' g A n cp bs ∧ w.grownBy w' (some g) := by
  obtain ⟨i, h, hi, hk, hr⟩ := h
  have x2 := hk.get (x := .int .i64 h) 2 rfl
  have y2 := hk.frozen 2
  have lk := hk.lt
  go_enter Tryd.func58, Tryd.ntmps58
  go_upto_region 2 with fail
  obtain ⟨h', hh⟩ : ∃ h', wrap64 (wrap64 (h * 6364136223846793005) + 1442695040888963407) = h' := ⟨_, rfl⟩
  simp only [hh]
  clear hh
  obtain ⟨W1, hW1⟩ : ∃ W, w.setCell ⟨g, 2, none⟩ (.int .i64 h') = W := ⟨_, rfl⟩
  have hk1 : Blk W1 g 70 #[.slice A n cp, .int .i64 i, .int .i64 h'] := by rw [← hW1]; exact hk.put 2 (.int .i64 h') _ rfl
  have hr1 : Reads W1 g 1 A n (B8 bs) := by rw [← hW1]; exact hr.sc (Nat.le_refl _) 2 _
  have hg1 : w.grownBy W1 (some g) := by rw [← hW1]; exact only_sc (grown_refl w (some g)) 2 (.int .i64 h')
  rw [hW1]
  clear hW1 x2 y2 hk hr
  have lk1 := hk1.lt
  have x0 := hk1.get (x := .slice A n cp) 0 rfl
  have x1 := hk1.get (x := .int .i64 i) 1 rfl
  have x2 := hk1.get (x := .int .i64 h') 2 rfl
  go_still (by kernel_rfl)
  change Exit.then _ _ Exit.normal _ W1.drew
  clear x2
  obtain ⟨W2, hW2⟩ : ∃ W, W1.drew = W := ⟨_, rfl⟩
  rw [hW2]
  have hk2 : Blk W2 g 70 #[.slice A n cp, .int .i64 i, .int .i64 h'] := by rw [← hW2]; exact hk1.drew
  have hr2 : Reads W2 g 1 A n (B8 bs) := by rw [← hW2]; exact hr1
  have hg2 : w.grownBy W2 (some g) := by rw [← hW2]; exact ⟨hg1.os, hg1.tape, hg1.output, hg1.size, hg1.block⟩
  clear hW2 x0 x1 lk1 hk1 hr1 hg1
  have lk2 := hk2.lt
  have x0 := hk2.get (x := .slice A n cp) 0 rfl
  have x1 := hk2.get (x := .int .i64 i) 1 rfl
  obtain ⟨X, hX⟩ : ∃ X, bits .and .i64 (bits .xor .i64 (h' / 8589934592) (h' / 35184372088832)) 255 = X := ⟨_, rfl⟩
  have hXb : 0 ≤ X ∧ X ≤ 255 := by rw [← hX]; exact and_bd _ 255 (by omega)
  simp only [hX]
  clear hX
  by_cases hlt : i < n
  · have hI : (i : Int) < (n : Int) := by omega
    have q0 : (0 : Int) ≤ (i : Int) := by omega
    obtain ⟨b, ad, rfl, z0⟩ : ∃ (b : UInt8) (ad : Addr), A = some ad ∧ W2.cell? (ad.add i) = some (.int .u8 b.toNat) := by
      obtain ⟨ad, hA, _, hc⟩ := hr2.2 (by omega)
      have hl := hr2.1
      have h2 : (B8 bs).length = bs.length := by simp [B8]
      have h3 := hc i (.int .u8 (bs[i]'(by omega)).toNat) (by simp [B8, show i < bs.length by omega])
      exact ⟨_, ad, hA, h3⟩
    go_wp2_with fail
    go_still (by kernel_rfl)
    change Exit.then _ _ Exit.normal _ W2.drew
    obtain ⟨W3, hW3⟩ : ∃ W, W2.drew = W := ⟨_, rfl⟩
    rw [hW3]
    have hk3 : Blk W3 g 70 #[.slice (some ad) n cp, .int .i64 i, .int .i64 h'] := by rw [← hW3]; exact hk2.drew
    have hr3 : Reads W3 g 1 (some ad) n (B8 bs) := by rw [← hW3]; exact hr2
    have hg3 : w.grownBy W3 (some g) := by rw [← hW3]; exact ⟨hg2.os, hg2.tape, hg2.output, hg2.size, hg2.block⟩
    have z0 : W3.cell? (ad.add i) = some (.int .u8 b.toNat) := by rw [← hW3]; exact z0
    clear hW3 x0 x1 lk2 hk2 hr2 hg2
    have lk3 := hk3.lt
    have x0 := hk3.get (x := .slice (some ad) n cp) 0 rfl
    have x1 := hk3.get (x := .int .i64 i) 1 rfl
    go_wp2_with fail
    go_still (by kernel_rfl)
    change Exit.then _ _ Exit.normal _ W3.drew
    obtain ⟨W4, hW4⟩ : ∃ W, W3.drew = W := ⟨_, rfl⟩
    rw [hW4]
    have hk4 : Blk W4 g 70 #[.slice (some ad) n cp, .int .i64 i, .int .i64 h'] := by rw [← hW4]; exact hk3.drew
    have hr4 : Reads W4 g 1 (some ad) n (B8 bs) := by rw [← hW4]; exact hr3
    have hg4 : w.grownBy W4 (some g) := by rw [← hW4]; exact ⟨hg3.os, hg3.tape, hg3.output, hg3.size, hg3.block⟩
    have z0 : W4.cell? (ad.add i) = some (.int .u8 b.toNat) := by rw [← hW4]; exact z0
    clear hW4 x0 x1 lk3 hk3 hr3 hg3
    have lk4 := hk4.lt
    have x0 := hk4.get (x := .slice (some ad) n cp) 0 rfl
    have x1 := hk4.get (x := .int .i64 i) 1 rfl
    obtain ⟨Y, hY⟩ : ∃ Y, bits .and .i64 (IntKind.i64.wrap (X + IntKind.i64.wrap (b.toNat : Int))) 255 = Y := ⟨_, rfl⟩
    have hYb : 0 ≤ Y ∧ Y ≤ 255 := by rw [← hY]; exact and_bd _ 255 (by omega)
    simp only [hY]
    clear hY
    have y1 := hk4.frozen 1
    have H2 := Lib.hid (hk4.put 1 (.int .i64 ((i : Int) + 1)) #[.slice (some ad) n cp, .int .i64 ((i + 1 : Nat) : Int), .int .i64 h'] rfl)
    have H3 := Lib.hid (hr4.sc (Nat.le_refl _) 1 (.int .i64 ((i : Int) + 1)))
    have H4 := Lib.hid (only_sc hg4 1 (.int .i64 ((i : Int) + 1)))
    go_wp2
    go_ret
    exact ⟨_, rfl, hYb.1, hYb.2, ⟨i + 1, h', by omega, H2.out, H3.out⟩, ⟨H4.out.os, H4.out.tape, H4.out.output, H4.out.size, H4.out.block⟩⟩
  · have hI : ¬ ((i : Int) < (n : Int)) := by omega
    go_wp2_with fail
    go_still (by kernel_rfl)
    change Exit.then _ _ Exit.normal _ W2.drew
    obtain ⟨W3, hW3⟩ : ∃ W, W2.drew = W := ⟨_, rfl⟩
    rw [hW3]
    have hk3 : Blk W3 g 70 #[.slice A n cp, .int .i64 i, .int .i64 h'] := by rw [← hW3]; exact hk2.drew
    have hr3 : Reads W3 g 1 A n (B8 bs) := by rw [← hW3]; exact hr2
    have hg3 : w.grownBy W3 (some g) := by rw [← hW3]; exact ⟨hg2.os, hg2.tape, hg2.output, hg2.size, hg2.block⟩
    clear hW3 x0 x1 lk2 hk2 hr2 hg2
    have lk3 := hk3.lt
    have x0 := hk3.get (x := .slice A n cp) 0 rfl
    have x1 := hk3.get (x := .int .i64 i) 1 rfl
    go_wp2
    go_ret
    exact ⟨_, rfl, hXb.1, hXb.2, ⟨i, h', hi, hk3, hr3⟩, hg3⟩

end Go.Proofs.YtpnmmigoencbdaaDoor
