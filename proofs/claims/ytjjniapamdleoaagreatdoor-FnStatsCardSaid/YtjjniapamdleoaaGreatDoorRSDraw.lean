/- What is drawn: the cursor, bytes, numbers, signs, names, sizes. -/
import Derived.Test.YtjjniapamdleoaaGreatDoorRSStrs
import Derived.Test.YtjjniapamdleoaaGreatDoorRSRegH
import Derived.StillTailTactics
import Derived.Test.YtjjniapamdleoaaGreatDoorRSSgn
namespace Go.Proofs.YtjjniapamdleoaaGreatDoor
open Go Go.RowKit
set_option maxHeartbeats 4000000
set_option maxRecDepth 100000

/-- 'and' with a mask lies within it. -/
theorem and_bd (x : Int) (M : Nat) (hM : M < 4611686018427387904) : 0 <= bits .and .i64 x (M : Int) /\ bits .and .i64 x (M : Int) <= M := by
 have h1 : ((BitVec.ofInt 64 x) &&& (BitVec.ofInt 64 (M : Int))).toNat <= M := by
  rw [BitVec.toNat_and]
  refine Nat.le_trans Nat.and_le_right ?_
  rw [BitVec.ofInt_natCast, BitVec.toNat_ofNat]
  exact Nat.mod_le _ _
 have h2 : bits .and .i64 x (M : Int) = IntKind.i64.wrap (((BitVec.ofInt 64 x) &&& (BitVec.ofInt 64 (M : Int))).toNat : Int) := rfl
 rw [h2, IntKind.wrap_i64]
 omega

/-- A cursor over a code. -/
def Curs (w : World) (g : Nat) (A : Option Addr) (n cp : Nat) (bs : List UInt8) : Prop :=
 ∃ (i : Nat) (h : Int), i <= n /\ Blk w g 105 #[.slice A n cp, .int .i64 i, .int .i64 h] /\ Reads w g 1 A n (B8 bs)
theorem Curs.lt {w : World} {g : Nat} {A : Option Addr} {n cp : Nat} {bs : List UInt8} (h : Curs w g A n cp bs) : g < w.heap.size := by
 obtain ⟨i, h, _, hb, _⟩ := h
 exact hb.lt
theorem Curs.below {w w' : World} {g : Nat} {A : Option Addr} {n cp : Nat} {bs : List UInt8} (h : Curs w g A n cp bs) (hb : Below w.heap.size w w') : Curs w' g A n cp bs := by
 have hl := h.lt
 obtain ⟨i, h, hi, hk, hr⟩ := h
 exact ⟨i, h, hi, hk.below hb hk.lt, hr.below (hb.mono (Nat.le_of_lt hl))⟩
theorem Reads.sc {w : World} {B size n : Nat} {A : Option Addr} {xs : List Value} (h : Reads w B size A n xs) {g : Nat} (hg : B <= g) (o : Nat) (x : Value) : Reads (w.setCell ⟨g, o, none⟩ x) B size A n xs :=
 h.below ((Below.refl B w).setCell (p := ⟨g, o, none⟩) hg x)

theorem l1Byte_any (g : Nat) (A : Option Addr) (n cp : Nat) (bs : List UInt8) (hn : n <= 9223372036854775806) (w : World) (h : Curs w g A n cp bs) :
  Calls Tryz.prog 101 #[.pointer (some ⟨g, 0, none⟩)] w fun e w' => ∃ x : Int, e = .returned (.int .i64 x) /\ 0 <= x /\ x <= 255 /\ Curs w' g A n cp bs /\ w.grownBy w' (some g) := by
 obtain ⟨i, h, hi, hk, hr⟩ := h
 have x2 := hk.get (x := .int .i64 h) 2 rfl
 have y2 := hk.frozen 2
 have lk := hk.lt
 go_enter Tryz.func101, Tryz.ntmps101
 go_upto_region 2 with fail
 obtain ⟨h', hh⟩ : ∃ h', wrap64 (wrap64 (h * 6364136223846793005) + 1442695040888963407) = h' := ⟨_, rfl⟩
 simp only [hh]
 clear hh
 obtain ⟨W1, hW1⟩ : ∃ W, w.setCell ⟨g, 2, none⟩ (.int .i64 h') = W := ⟨_, rfl⟩
 have hk1 : Blk W1 g 105 #[.slice A n cp, .int .i64 i, .int .i64 h'] := by rw [<- hW1]; exact hk.put 2 (.int .i64 h') _ rfl
 have hr1 : Reads W1 g 1 A n (B8 bs) := by rw [<- hW1]; exact hr.sc (Nat.le_refl _) 2 _
 have hg1 : w.grownBy W1 (some g) := by rw [<- hW1]; exact only_sc (grown_refl w (some g)) 2 (.int .i64 h')
 rw [hW1]
 clear hW1 x2 y2 hk hr
 have lk1 := hk1.lt
 have x0 := hk1.get (x := .slice A n cp) 0 rfl
 have x1 := hk1.get (x := .int .i64 i) 1 rfl
 have x2 := hk1.get (x := .int .i64 h') 2 rfl
 go_still (by kernel_rfl)
 change Exit.then _ _ Exit.normal _ W1.drew
 clear x2
 obtain ⟨W2, hW2⟩ : ∃ W, W1.drew = W := ⟨_, rfl⟩
 rw [hW2]
 have hk2 : Blk W2 g 105 #[.slice A n cp, .int .i64 i, .int .i64 h'] := by rw [<- hW2]; exact hk1.drew
 have hr2 : Reads W2 g 1 A n (B8 bs) := by rw [<- hW2]; exact hr1
 have hg2 : w.grownBy W2 (some g) := by rw [<- hW2]; exact ⟨hg1.os, hg1.tape, hg1.output, hg1.size, hg1.block⟩
 clear hW2 x0 x1 lk1 hk1 hr1 hg1
 have lk2 := hk2.lt
 have x0 := hk2.get (x := .slice A n cp) 0 rfl
 have x1 := hk2.get (x := .int .i64 i) 1 rfl
 obtain ⟨X, hX⟩ : ∃ X, bits .and .i64 (bits .xor .i64 (h' / 8589934592) (h' / 35184372088832)) 255 = X := ⟨_, rfl⟩
 have hXb : 0 <= X /\ X <= 255 := by rw [<- hX]; exact and_bd _ 255 (by omega)
 simp only [hX]
 clear hX
 by_cases hlt : i < n
 ·have hI : (i : Int) < (n : Int) := by omega
  have q0 : (0 : Int) <= (i : Int) := by omega
  obtain ⟨b, ad, rfl, z0⟩ : ∃ (b : UInt8) (ad : Addr), A = some ad /\ W2.cell? (ad.add i) = some (.int .u8 b.toNat) := by
   obtain ⟨ad, hA, _, hc⟩ := hr2.2 (by omega)
   have hl := hr2.1
   have h2 : (B8 bs).length = bs.length := by simp [B8]
   have h3 := hc i (.int .u8 (bs[i]'(by omega)).toNat) (by simp [B8, show i < bs.length by omega])
   exact ⟨_, ad, hA, h3⟩
  go_wp2_with fail
  go_still (by kernel_rfl)
  change Exit.then _ _ Exit.normal _ W2.drew
  obtain ⟨W3, hW3⟩ : ∃ W, W2.drew = W := ⟨_, rfl⟩
  rw [hW3]
  have hk3 : Blk W3 g 105 #[.slice (some ad) n cp, .int .i64 i, .int .i64 h'] := by rw [<- hW3]; exact hk2.drew
  have hr3 : Reads W3 g 1 (some ad) n (B8 bs) := by rw [<- hW3]; exact hr2
  have hg3 : w.grownBy W3 (some g) := by rw [<- hW3]; exact ⟨hg2.os, hg2.tape, hg2.output, hg2.size, hg2.block⟩
  have z0 : W3.cell? (ad.add i) = some (.int .u8 b.toNat) := by rw [<- hW3]; exact z0
  clear hW3 x0 x1 lk2 hk2 hr2 hg2
  have lk3 := hk3.lt
  have x0 := hk3.get (x := .slice (some ad) n cp) 0 rfl
  have x1 := hk3.get (x := .int .i64 i) 1 rfl
  go_wp2_with fail
  go_still (by kernel_rfl)
  change Exit.then _ _ Exit.normal _ W3.drew
  obtain ⟨W4, hW4⟩ : ∃ W, W3.drew = W := ⟨_, rfl⟩
  rw [hW4]
  have hk4 : Blk W4 g 105 #[.slice (some ad) n cp, .int .i64 i, .int .i64 h'] := by rw [<- hW4]; exact hk3.drew
  have hr4 : Reads W4 g 1 (some ad) n (B8 bs) := by rw [<- hW4]; exact hr3
  have hg4 : w.grownBy W4 (some g) := by rw [<- hW4]; exact ⟨hg3.os, hg3.tape, hg3.output, hg3.size, hg3.block⟩
  have z0 : W4.cell? (ad.add i) = some (.int .u8 b.toNat) := by rw [<- hW4]; exact z0
  clear hW4 x0 x1 lk3 hk3 hr3 hg3
  have lk4 := hk4.lt
  have x0 := hk4.get (x := .slice (some ad) n cp) 0 rfl
  have x1 := hk4.get (x := .int .i64 i) 1 rfl
  obtain ⟨Y, hY⟩ : ∃ Y, bits .and .i64 (IntKind.i64.wrap (X + IntKind.i64.wrap (b.toNat : Int))) 255 = Y := ⟨_, rfl⟩
  have hYb : 0 <= Y /\ Y <= 255 := by rw [<- hY]; exact and_bd _ 255 (by omega)
  simp only [hY]
  clear hY
  have y1 := hk4.frozen 1
  have H2 := Lib.hid (hk4.put 1 (.int .i64 ((i : Int) + 1)) #[.slice (some ad) n cp, .int .i64 ((i + 1 : Nat) : Int), .int .i64 h'] rfl)
  have H3 := Lib.hid (hr4.sc (Nat.le_refl _) 1 (.int .i64 ((i : Int) + 1)))
  have H4 := Lib.hid (only_sc hg4 1 (.int .i64 ((i : Int) + 1)))
  go_wp2
  go_ret
  exact ⟨_, rfl, hYb.1, hYb.2, ⟨i + 1, h', by omega, H2.out, H3.out⟩, ⟨H4.out.os, H4.out.tape, H4.out.output, H4.out.size, H4.out.block⟩⟩
 ·have hI : ¬ ((i : Int) < (n : Int)) := by omega
  go_wp2_with fail
  go_still (by kernel_rfl)
  change Exit.then _ _ Exit.normal _ W2.drew
  obtain ⟨W3, hW3⟩ : ∃ W, W2.drew = W := ⟨_, rfl⟩
  rw [hW3]
  have hk3 : Blk W3 g 105 #[.slice A n cp, .int .i64 i, .int .i64 h'] := by rw [<- hW3]; exact hk2.drew
  have hr3 : Reads W3 g 1 A n (B8 bs) := by rw [<- hW3]; exact hr2
  have hg3 : w.grownBy W3 (some g) := by rw [<- hW3]; exact ⟨hg2.os, hg2.tape, hg2.output, hg2.size, hg2.block⟩
  clear hW3 x0 x1 lk2 hk2 hr2 hg2
  have lk3 := hk3.lt
  have x0 := hk3.get (x := .slice A n cp) 0 rfl
  have x1 := hk3.get (x := .int .i64 i) 1 rfl
  go_wp2
  go_ret
  exact ⟨_, rfl, hXb.1, hXb.2, ⟨i, h', hi, hk3, hr3⟩, hg3⟩

theorem add_blk (ad : Addr) (k : Nat) : (ad.add k).block = ad.block := by unfold Addr.add; split <;> rfl
theorem Curs.alloc {w : World} {g : Nat} {A : Option Addr} {n cp : Nat} {bs : List UInt8} (h : Curs w g A n cp bs) (o : Obj) : Curs (w.alloc o) g A n cp bs := h.below (belA (bel0 w) o)

theorem l1New_any (A : Option Addr) (n cp : Nat) (bs : List UInt8) (hn : n <= 9223372036854775806) (w : World) (hr : Reads w w.heap.size 1 A n (B8 bs)) :
  Calls Tryz.prog 43 #[.slice A n cp] w fun e w' => ∃ g, e = .returned (.pointer (some ⟨g, 0, none⟩)) /\ w.heap.size <= g /\ Curs w' g A n cp bs /\ Below w.heap.size w w' := by
 have Hr := Lib.hid hr
 clear hr
 go_enter Tryz.func43, Tryz.ntmps43
 go_wp2
 go_loopw [3, 4] (fun h i wr => ∃ (q : Nat) (hv : Int), q <= n /\ i = .int .i64 q /\ h = .int .i64 hv /\ Below w.heap.size w wr)
  (fun _ i _ => n - (intOf i).toNat)
 case atStart => exact ⟨0, _, by omega, rfl, rfl, bel0 w⟩
 case round =>
  obtain ⟨q, hv, hq, rfl, rfl, hbel⟩ := hrel
  by_cases hlt : q < n
  ·have hI : (q : Int) < (n : Int) := by omega
   have q0 : (0 : Int) <= (q : Int) := by omega
   obtain ⟨b, ad, rfl, z0⟩ : ∃ (b : UInt8) (ad : Addr), A = some ad /\ wr.cell? (ad.add q) = some (.int .u8 b.toNat) := by
    obtain ⟨ad, hA, _, hc⟩ := (Hr.out.below hbel).2 (by omega)
    have hl := Hr.out.1
    have h2 : (B8 bs).length = bs.length := by simp [B8]
    have h3 := hc q (.int .u8 (bs[q]'(by omega)).toNat) (by simp [B8, show q < bs.length by omega])
    exact ⟨_, ad, hA, h3⟩
   by_cases h4 : (q : Int) < 4000
   ·go_wp2
    first
     | exact ⟨⟨q + 1, _, by omega, by go_num, rfl, hbel⟩, by simp [intOf]; omega⟩
     | (go_roundw; case rel => exact ⟨q + 1, _, by omega, by go_num, rfl, hbel⟩; case measure => (simp [intOf]; omega))
   ·go_wp2
    go_ret
    exact ⟨wr.heap.size, rfl, hbel.size, ⟨0, hv, Nat.zero_le _, Blk.new' _ _ _ _ rfl, ((Hr.out.below hbel).more hbel.size).below (belA (bel0 wr) _)⟩, belA hbel _⟩
  ·have hI : ¬ ((q : Int) < (n : Int)) := by omega
   go_wp2
   go_ret
   exact ⟨wr.heap.size, rfl, hbel.size, ⟨0, hv, Nat.zero_le _, Blk.new' _ _ _ _ rfl, ((Hr.out.below hbel).more hbel.size).below (belA (bel0 wr) _)⟩, belA hbel _⟩

theorem l1Below_any (g : Nat) (A : Option Addr) (n cp : Nat) (bs : List UInt8) (hn : n <= 9223372036854775806) (m : Int) (hm : m <= 4611686018427387904) (w : World) (h : Curs w g A n cp bs) :
  Calls Tryz.prog 60 #[.pointer (some ⟨g, 0, none⟩), .int .i64 m] w fun e w' => ∃ x : Int, e = .returned (.int .i64 x) /\ (m <= 0 -> x = 0) /\ (0 < m -> 0 <= x /\ x < m) /\ Curs w' g A n cp bs /\ w.grownBy w' (some g) := by
 have Hb := Lib.hid (fun W hW => l1Byte_any g A n cp bs hn W hW)
 by_cases h0 : m <= 0
 ·go_enter Tryz.func60, Tryz.ntmps60
  go_wp2
  go_ret
  exact ⟨0, rfl, fun _ => rfl, fun h => by omega, h, grown_refl w _⟩
 ·by_cases h1 : m <= 256
  ·go_enter Tryz.func60, Tryz.ntmps60
   go_wp2_with fail
   refine (Hb.out w h).mono ?_
   rintro e w1 ⟨x, rfl, hx0, hx1, hc1, hg1⟩
   have mz : ¬ (m = 0) := by omega
   have mt : x.tmod m = x % m := Int.tmod_eq_emod_of_nonneg hx0
   have m0 := Int.emod_nonneg x mz
   have m1 := Int.emod_lt_of_pos x (show 0 < m by omega)
   go_wp2
   go_ret
   exact ⟨_, rfl, fun h => by omega, fun _ => by constructor <;> omega, hc1, hg1⟩
  ·go_enter Tryz.func60, Tryz.ntmps60
   go_wp2_with fail
   refine (Hb.out w h).mono ?_
   rintro e w1 ⟨x, rfl, hx0, hx1, hc1, hg1⟩
   go_wp2_with fail
   refine (Hb.out w1 hc1).mono ?_
   rintro e w2 ⟨y, rfl, hy0, hy1, hc2, hg2⟩
   go_wp2_with fail
   refine (Hb.out w2 hc2).mono ?_
   rintro e w3 ⟨z, rfl, hz0, hz1, hc3, hg3⟩
   go_wp2_with fail
   refine (Hb.out w3 hc3).mono ?_
   rintro e w4 ⟨u, rfl, hu0, hu1, hc4, hg4⟩
   have mz : ¬ (m = 0) := by omega
   obtain ⟨S, hS⟩ : ∃ S, x * 16777216 + y * 65536 + z * 256 + u = S := ⟨_, rfl⟩
   have S0 : 0 <= S := by omega
   have S1 : S <= 4294967295 := by omega
   have mt : S.tmod m = S % m := Int.tmod_eq_emod_of_nonneg S0
   have m0 := Int.emod_nonneg S mz
   have m1 := Int.emod_lt_of_pos S (show 0 < m by omega)
   go_wp2
   go_ret
   exact ⟨_, rfl, fun h => by omega, fun _ => by constructor <;> omega, hc4, ((hg1.trans hg2).trans hg3).trans hg4⟩

theorem l1Once_any (g : Nat) (A : Option Addr) (n cp : Nat) (bs : List UInt8) (hn : n <= 9223372036854775806) (m : Int) (hm : m <= 4611686018427387904) (w : World) (h : Curs w g A n cp bs) :
  Calls Tryz.prog 64 #[.pointer (some ⟨g, 0, none⟩), .int .i64 m] w fun e w' => ∃ b : Bool, e = .returned (.bool b) /\ Curs w' g A n cp bs /\ w.grownBy w' (some g) := by
 have Hb := Lib.hid (fun W hW => l1Below_any g A n cp bs hn m hm W hW)
 go_enter Tryz.func64, Tryz.ntmps64
 go_wp2_with fail
 refine (Hb.out w h).mono ?_
 rintro e w1 ⟨x, rfl, _, _, hc1, hg1⟩
 go_wp2
 go_ret
 exact ⟨_, rfl, hc1, hg1⟩

theorem l1PickInt_any (g : Nat) (A : Option Addr) (n cp : Nat) (bs : List UInt8) (hn : n <= 9223372036854775806) (AL : Option Addr) (m cl : Nat) (xs : List Int) (hm : 0 < m) (hm2 : m <= 1000000) (w : World) (h : Curs w g A n cp bs) (hl : Reads w w.heap.size 1 AL m (II xs)) (hne : ∀ ad, AL = some ad -> ad.block ≠ g) :
  Calls Tryz.prog 86 #[.pointer (some ⟨g, 0, none⟩), .slice AL m cl] w fun e w' => ∃ x : Int, e = .returned (.int .i64 x) /\ x ∈ xs /\ Curs w' g A n cp bs /\ w.grownBy w' (some g) := by
 have Hb := Lib.hid (fun W hW => l1Below_any g A n cp bs hn (m : Int) (by omega) W hW)
 have Hl := Lib.hid hl
 have Hne := Lib.hid hne
 clear hl hne
 go_enter Tryz.func86, Tryz.ntmps86
 go_wp2_with fail
 refine (Hb.out w h).mono ?_
 rintro e w1 ⟨x, rfl, _, hx, hc1, hg1⟩
 obtain ⟨hx0, hx1⟩ := hx (by omega)
 obtain ⟨k, rfl⟩ : ∃ k : Nat, x = (k : Int) := ⟨x.toNat, by omega⟩
 obtain ⟨hk', ad, rfl, hadb, hc⟩ := reads_at Hl.out (k := k) (by omega)
 have hz : w1.cell? (ad.add k) = some (.int .i64 xs[k]) := by
  rw [World.cell?_of_block (w := w) (hg1.block _ (by rw [add_blk]; exact hadb) (by rw [add_blk]; intro e; injection e with e; exact Hne.out ad rfl e))]
  exact hc
 go_wp2
 go_ret
 exact ⟨_, rfl, List.getElem_mem hk', hc1, hg1⟩

def nms1 : List ByteArray := [⟨#[97]⟩, ⟨#[65]⟩, ⟨#[98]⟩, ⟨#[195, 165]⟩, ⟨#[97, 204, 138]⟩, ⟨#[226, 132, 171]⟩, ⟨#[65, 204, 138]⟩, ⟨#[225, 186, 173]⟩, ⟨#[97, 204, 130, 204, 163]⟩, ⟨#[97, 204, 163, 204, 130]⟩, ⟨#[115, 115]⟩, ⟨#[195, 159]⟩, ⟨#[83, 83]⟩, ⟨#[207, 131]⟩, ⟨#[207, 130]⟩, ⟨#[206, 163]⟩, ⟨#[234, 176, 129]⟩, ⟨#[225, 132, 128, 225, 133, 161, 225, 134, 168]⟩, ⟨#[206, 172]⟩, ⟨#[206, 134]⟩, ⟨#[102, 105, 108, 101]⟩, ⟨#[70, 73, 76, 69]⟩, ⟨#[70, 105, 108, 101]⟩, ⟨#[120, 49]⟩, ⟨#[120, 50]⟩, ⟨#[120, 51]⟩, ⟨#[120, 52]⟩, ⟨#[120, 53]⟩, ⟨#[108, 111, 110, 103, 32, 110, 97, 109, 101]⟩]
def nms2 : List ByteArray := [⟨#[]⟩, ⟨#[46]⟩, ⟨#[46, 46]⟩, ⟨#[46, 46, 46]⟩, ⟨#[97, 47, 98]⟩, ⟨#[127]⟩, ⟨#[97, 98, 99, 100, 101, 102, 103, 104, 105, 106, 107, 108, 109, 110, 111, 112, 113, 114, 115, 116, 117, 118, 119, 120]⟩, ⟨#[97, 98, 99, 100, 101, 102, 103, 104, 105, 106, 107, 108, 109, 110, 111, 112, 113, 114, 115, 116, 117, 118, 119, 120, 121]⟩, ⟨#[255]⟩]
def sgs1 : List Int := [(97), (65), (98), (229), (197), (8491), (778), (803), (770), (807), (769), (7853), (7852), (7841), (470), (252), (115), (83), (223), (963), (962), (931), (940), (902), (8486), (1040), (1072), (44032), (44033), (4352), (4449), (4520), (231), (99), (55203), (255)]
def sgs2 : List Int := [(-1), (0), (31), (47), (127), (55204), (55296), (57343), (57344), (65535), (65536), (1114111), (1114112), (930), (256)]
theorem nms1_sz : ∀ t ∈ nms1, t.size <= 25 := by
 have h : nms1.all (fun t => decide (t.size <= 25)) = true := by decide +kernel
 intro t ht
 exact of_decide_eq_true (List.all_eq_true.1 h t ht)
theorem nms2_sz : ∀ t ∈ nms2, t.size <= 25 := by
 have h : nms2.all (fun t => decide (t.size <= 25)) = true := by decide +kernel
 intro t ht
 exact of_decide_eq_true (List.all_eq_true.1 h t ht)

theorem reads_lit (w : World) (cs : Array Value) (e : TypeId) (m : Nat) (hs : cs.size = m) : Reads (w.alloc (.cells cs e)) (w.alloc (.cells cs e)).heap.size 1 (some ⟨w.heap.size, 0, none⟩) m cs.toList := by
 have h := reads_new (w := w) cs e 1 m (by omega)
 exact h.more (by simp)

theorem l1Pick_any (g : Nat) (A : Option Addr) (n cp : Nat) (bs : List UInt8) (hn : n <= 9223372036854775806) (AL : Option Addr) (m cl : Nat) (xs : List ByteArray) (hm : 0 < m) (hm2 : m <= 1000000) (w : World) (h : Curs w g A n cp bs) (hl : Reads w w.heap.size 1 AL m (SS xs)) (hne : ∀ ad, AL = some ad -> ad.block ≠ g) :
  Calls Tryz.prog 66 #[.pointer (some ⟨g, 0, none⟩), .slice AL m cl] w fun e w' => ∃ x : ByteArray, e = .returned (.string x) /\ x ∈ xs /\ Curs w' g A n cp bs /\ w.grownBy w' (some g) := by
 have Hb := Lib.hid (fun W hW => l1Below_any g A n cp bs hn (m : Int) (by omega) W hW)
 have Hl := Lib.hid hl
 have Hne := Lib.hid hne
 clear hl hne
 go_enter Tryz.func66, Tryz.ntmps66
 go_wp2_with fail
 refine (Hb.out w h).mono ?_
 rintro e w1 ⟨x, rfl, _, hx, hc1, hg1⟩
 obtain ⟨hx0, hx1⟩ := hx (by omega)
 obtain ⟨k, rfl⟩ : ∃ k : Nat, x = (k : Int) := ⟨x.toNat, by omega⟩
 obtain ⟨hk', ad, rfl, hadb, hc⟩ := reads_str Hl.out (k := k) (by omega)
 have hz : w1.cell? (ad.add k) = some (.string xs[k]) := by
  rw [World.cell?_of_block (w := w) (hg1.block _ (by rw [add_blk]; exact hadb) (by rw [add_blk]; intro e; injection e with e; exact Hne.out ad rfl e))]
  exact hc
 go_wp2
 go_ret
 exact ⟨_, rfl, List.getElem_mem hk', hc1, hg1⟩

theorem gb_al {w w' : World} {g : Nat} {o : Obj} (h : (w.alloc o).grownBy w' (some g)) : w.grownBy w' (some g) := by
 refine ⟨h.os, h.tape, h.output, Nat.le_trans (by simp) h.size, fun i hi hn => (h.block i (by simp; omega) hn).trans (Below.heap_alloc w o i hi)⟩
theorem l3Some_any (g : Nat) (A : Option Addr) (n cp : Nat) (bs : List UInt8) (hn : n <= 9223372036854775806) (w : World) (h : Curs w g A n cp bs) :
  Calls Tryz.prog 155 #[.pointer (some ⟨g, 0, none⟩)] w fun e w' => ∃ x : Int, e = .returned (.int .i64 x) /\ Curs w' g A n cp bs /\ w.grownBy w' (some g) := by
 have Ho := Lib.hid (fun m hm W hW => l1Once_any g A n cp bs hn m hm W hW)
 have Hb := Lib.hid (fun m hm W hW => l1Below_any g A n cp bs hn m hm W hW)
 have hlt := h.lt
 go_enter Tryz.func155, Tryz.ntmps155
 go_wp2_with fail
 refine (l1PickInt_any g A n cp bs hn (some ⟨w.heap.size, 0, none⟩) 36 36 sgs1 (by omega) (by omega) _ (h.alloc _) (show Reads _ _ 1 _ _ _ from reads_lit w _ _ _ rfl) (fun ad e => by injection e with e; rw [<- e]; simp only; omega)).mono ?_
 rintro e w1 ⟨x, rfl, _, hc1, hg1⟩
 have G1 := gb_al hg1
 go_wp2_with fail
 refine (Ho.out _ (by omega) w1 hc1).mono ?_
 rintro e w2 ⟨b, rfl, hc2, hg2⟩
 have G2 := G1.trans hg2
 cases b
 case true =>
  go_wp2_with fail
  refine (Hb.out _ (by omega) w2 hc2).mono ?_
  rintro e w3 ⟨y, rfl, _, hy, hc3, hg3⟩
  have hy2 := hy (by omega)
  go_wp2
  go_ret
  exact ⟨_, rfl, hc3, G2.trans hg3⟩
 case false =>
  go_wp2_with fail
  refine (Ho.out _ (by omega) w2 hc2).mono ?_
  rintro e w3 ⟨b, rfl, hc3, hg3⟩
  have G3 := G2.trans hg3
  have hlt3 := hc3.lt
  cases b
  case true =>
   go_wp2_with fail
   refine (l1PickInt_any g A n cp bs hn (some ⟨w3.heap.size, 0, none⟩) 15 15 sgs2 (by omega) (by omega) _ (hc3.alloc _) (show Reads _ _ 1 _ _ _ from reads_lit w3 _ _ _ rfl) (fun ad e => by injection e with e; rw [<- e]; simp only; omega)).mono ?_
   rintro e w4 ⟨y, rfl, _, hc4, hg4⟩
   go_wp2
   go_ret
   exact ⟨_, rfl, hc4, G3.trans (gb_al hg4)⟩
  case false =>
   go_wp2
   go_ret
   exact ⟨_, rfl, hc3, G3⟩

theorem gb_bel0 {a w w1 : World} {g : Nat} (h : a.grownBy w (some g)) (hb : Below a.heap.size w w1) : a.grownBy w1 (some g) :=
 ⟨hb.os.trans h.os, hb.tape.trans h.tape, hb.output.trans h.output, Nat.le_trans h.size hb.size, fun i hi hn => (hb.block i hi).trans (h.block i hi hn)⟩
theorem Curs.bel {w w' : World} {B g : Nat} {A : Option Addr} {n cp : Nat} {bs : List UInt8} (h : Curs w g A n cp bs) (hb : Below B w w') (hB : g < B) : Curs w' g A n cp bs := by
 obtain ⟨i, h, hi, hk, hr⟩ := h
 exact ⟨i, h, hi, hk.below hb hB, hr.below (hb.mono (Nat.le_of_lt hB))⟩
theorem own_g {w w' : World} {base n size g : Nat} {e : TypeId} {v : Value} {xs : List Value} (h : w.ownsRow base e size v n xs) (hg : w.grownBy w' (some g)) (hgb : g < base) : w'.ownsRow base e size v n xs :=
 h.kept hg (by
  rcases hv : v.ownBlock with _ | k
  ·exact .inl rfl
  ·right; intro he; injection he with he; have := (h.lt k hv).1; omega)

theorem l3List_any (g : Nat) (A : Option Addr) (n cp : Nat) (bs : List UInt8) (hn : n <= 9223372036854775806) (most : Nat) (hm : most <= 1000) (w : World) (h : Curs w g A n cp bs) :
  Calls Tryz.prog 105 #[.pointer (some ⟨g, 0, none⟩), .int .i64 most] w fun e w' => ∃ v xs, e = .returned v /\ xs.length <= most /\ w'.ownsRow w.heap.size 3 1 v xs.length (II xs) /\ Curs w' g A n cp bs /\ w.grownBy w' (some g) := by
 have Hb := Lib.hid (fun m hm W hW => l1Below_any g A n cp bs hn m hm W hW)
 have Hs := Lib.hid (fun W hW => l3Some_any g A n cp bs hn W hW)
 have hlt := h.lt
 have own0 := World.ownsRow_lit (e := 3) (size := 1) w #[] 0 (Nat.le_refl _) (by unfold maxLen; omega) rfl
 go_enter Tryz.func105, Tryz.ntmps105
 go_wp2_with fail
 refine (Hb.out _ (by omega) _ (h.alloc _)).mono ?_
 rintro e w1 ⟨x, rfl, _, hx, hc1, hg1⟩
 obtain ⟨hx0, hx1⟩ := hx (by omega)
 obtain ⟨k, rfl⟩ : ∃ k : Nat, x = (k : Int) := ⟨x.toNat, by omega⟩
 have own1 := own_g own0 hg1 hlt
 have G1 := gb_al hg1
 go_wp2
 go_loopw [5, 6] (fun v i wr => ∃ (k : Nat) (xs : List Int), i = .int .i64 k /\ k + xs.length <= most /\ Hid (wr.ownsRow w.heap.size 3 1 v xs.length (II xs)) /\ Curs wr g A n cp bs /\ w.grownBy wr (some g))
  (fun _ i _ => (intOf i).toNat)
 case atStart => exact ⟨k, [], rfl, by simp; omega, own1, hc1, G1⟩
 case round =>
  clear own1 hc1 G1 hg1
  obtain ⟨k, xs, rfl, hk, Own, hc, G⟩ := hrel
  by_cases h0 : k = 0
  ·subst h0
   go_wp2
   go_ret
   exact ⟨_, xs, rfl, by omega, Own.out, hc, G⟩
  ·have hk0 : (k : Int) > 0 := by omega
   go_wp2_with fail
   refine (Hs.out _ hc).mono ?_
   rintro e w2 ⟨y, rfl, hc2, hg2⟩
   have Own2 := Lib.hid (own_g Own.out hg2 hlt)
   have G2 := G.trans hg2
   have sz := G2.size
   go_wp2_with (at_builtin; refine wpList_app _ rfl _ _ _ rfl Tryz.el_int (Own2.out.alloc _) rfl (reads_new _ _ _ _ 1 (by rfl)) rfl (by simp [Value.oneCell']) (max_small (by omega)) (by omega) (by simp; omega) ?_; intro v3 w3 own3 hg3 _ hb3)
   have own4 : w3.ownsRow w.heap.size 3 1 v3 (xs ++ [y]).length (II (xs ++ [y])) := by
    rw [List.length_append, show II (xs ++ [y]) = II xs ++ [.int .i64 y] by simp [II]]
    exact own3
   have hb4 : Below w.heap.size w2 w3 := ((Below.refl w.heap.size w2).alloc sz (.cells #[.int .i64 y] 3)).trans hb3
   have hc4 := hc2.bel hb4 hlt
   have G4 := gb_bel0 G2 hb4
   have Own4 := Lib.hid own4
   clear own3 own4
   have w4 : IntKind.i64.wrap ((k : Int) - 1) = ((k - 1 : Nat) : Int) := by rw [IntKind.wrap_i64]; omega
   go_wp2
   first
    | exact ⟨⟨k - 1, xs ++ [y], by go_num, by simp; omega, Own4.out, hc4, G4⟩, by simp [intOf]; omega⟩
    | (go_roundw; case rel => exact ⟨k - 1, xs ++ [y], by go_num, by simp; omega, Own4.out, hc4, G4⟩; case measure => (simp [intOf]; omega))

theorem l4Name_any (g : Nat) (A : Option Addr) (n cp : Nat) (bs : List UInt8) (hn : n <= 9223372036854775806) (w : World) (h : Curs w g A n cp bs) :
  Calls Tryz.prog 65 #[.pointer (some ⟨g, 0, none⟩)] w fun e w' => ∃ s : ByteArray, e = .returned (.string s) /\ s.size <= 25 /\ Curs w' g A n cp bs /\ w.grownBy w' (some g) := by
 have Ho := Lib.hid (fun m hm W hW => l1Once_any g A n cp bs hn m hm W hW)
 have Hl := Lib.hid (fun W hW => l3List_any g A n cp bs hn 4 (by omega) W hW)
 have hlt := h.lt
 go_enter Tryz.func65, Tryz.ntmps65
 go_wp2_with fail
 refine (l1Pick_any g A n cp bs hn (some ⟨w.heap.size, 0, none⟩) 29 29 nms1 (by omega) (by omega) _ (h.alloc _) (show Reads _ _ 1 _ _ _ from reads_lit w _ _ _ rfl) (fun ad e => by injection e with e; rw [<- e]; simp only; omega)).mono ?_
 rintro e w1 ⟨x, rfl, hxm, hc1, hg1⟩
 have hx25 := nms1_sz x hxm
 have G1 := gb_al hg1
 go_wp2_with fail
 refine (Ho.out _ (by omega) w1 hc1).mono ?_
 rintro e w2 ⟨b, rfl, hc2, hg2⟩
 have G2 := G1.trans hg2
 cases b
 case true =>
  go_wp2_with fail
  refine (Hl.out w2 hc2).mono ?_
  rintro e w3 ⟨v, xs, rfl, hxs, own3, hc3, hg3⟩
  obtain ⟨A3, c3, rfl, _, _, hr3⟩ := own_vals own3
  have hsz := encB_size xs
  have G3 := G2.trans hg3
  go_wp2_with fail
  refine (encode_spec A3 xs.length c3 xs rfl (by omega) w3 hr3).mono ?_
  rintro e w4 ⟨rfl, hb4⟩
  go_wp2
  go_ret
  exact ⟨_, rfl, by omega, hc3.below hb4, gb_below G3 hb4⟩
 case false =>
  go_wp2_with fail
  refine (Ho.out _ (by omega) w2 hc2).mono ?_
  rintro e w3 ⟨b, rfl, hc3, hg3⟩
  have G3 := G2.trans hg3
  have hlt3 := hc3.lt
  cases b
  case true =>
   go_wp2_with fail
   refine (l1Pick_any g A n cp bs hn (some ⟨w3.heap.size, 0, none⟩) 9 9 nms2 (by omega) (by omega) _ (hc3.alloc _) (show Reads _ _ 1 _ _ _ from reads_lit w3 _ _ _ rfl) (fun ad e => by injection e with e; rw [<- e]; simp only; omega)).mono ?_
   rintro e w4 ⟨y, rfl, hym, hc4, hg4⟩
   go_wp2
   go_ret
   exact ⟨_, rfl, nms2_sz y hym, hc4, G3.trans (gb_al hg4)⟩
  case false =>
   go_wp2
   go_ret
   exact ⟨_, rfl, hx25, hc3, G3⟩

theorem l1Size_any (A : Option Addr) (n cp : Nat) (hn : n <= 9223372036854775000) (m : Int) (w : World) :
  Calls Tryz.prog 45 #[.slice A n cp, .int .i64 m] w fun e w' => ∃ x : Int, e = .returned (.int .i64 x) /\ x <= m /\ w = w' := by
 have hq : (n : Int).tdiv 20 = (n : Int) / 20 := Int.tdiv_eq_ediv_of_nonneg (by omega)
 by_cases h : 2 + (n : Int) / 20 > m
 ·go_enter Tryz.func45, Tryz.ntmps45
  go_wp2
  go_ret
  exact ⟨_, rfl, Int.le_refl _, rfl⟩
 ·go_enter Tryz.func45, Tryz.ntmps45
  go_wp2
  go_ret
  exact ⟨_, rfl, by omega, rfl⟩

theorem l1Text_any (g : Nat) (A : Option Addr) (n cp : Nat) (bs : List UInt8) (hn : n <= 9223372036854775806) (most : Nat) (hm : most <= 1000) (w : World) (h : Curs w g A n cp bs) :
  Calls Tryz.prog 75 #[.pointer (some ⟨g, 0, none⟩), .int .i64 most] w fun e w' => ∃ s : ByteArray, e = .returned (.string s) /\ s.size <= most /\ Curs w' g A n cp bs /\ w.grownBy w' (some g) := by
 have Hb := Lib.hid (fun m hm W hW => l1Below_any g A n cp bs hn m hm W hW)
 have Hy := Lib.hid (fun W hW => l1Byte_any g A n cp bs hn W hW)
 have hlt := h.lt
 have own0 := World.ownsRow_lit (e := 5) (size := 1) w #[] 0 (Nat.le_refl _) (by unfold maxLen; omega) rfl
 go_enter Tryz.func75, Tryz.ntmps75
 go_wp2_with fail
 refine (Hb.out 4 (by omega) _ (h.alloc _)).mono ?_
 rintro e w0 ⟨y, rfl, _, hy, hc0, hg0⟩
 obtain ⟨hy0, hy1⟩ := hy (by omega)
 have own1 := own_g own0 hg0 hlt
 have G0 := gb_al hg0
 clear hy own0
 go_wp2_with fail
 refine (Hb.out _ (by omega) _ hc0).mono ?_
 rintro e w1 ⟨x, rfl, _, hx, hc1, hg1⟩
 obtain ⟨hx0, hx1⟩ := hx (by omega)
 obtain ⟨k, rfl⟩ : ∃ k : Nat, x = (k : Int) := ⟨x.toNat, by omega⟩
 have Own1 := Lib.hid (own_g own1 hg1 hlt)
 have G1 := G0.trans hg1
 clear own1 hx
 go_wp2
 go_loopw [5, 7] (fun v i wr => ∃ (k : Nat) (l : List UInt8), i = .int .i64 k /\ k + l.length <= most /\ Hid (wr.ownsRow w.heap.size 5 1 v l.length (B8 l)) /\ Curs wr g A n cp bs /\ w.grownBy wr (some g))
  (fun _ i _ => (intOf i).toNat)
 case atStart => exact ⟨k, [], rfl, by simp; omega, Own1.out, hc1, G1⟩
 case round =>
  clear Own1 hc1 G1 hg1
  obtain ⟨k, l, rfl, hk, Own, hc, G⟩ := hrel
  by_cases h0 : k = 0
  ·subst h0
   have hcv := run_convert_own Tryz.underlying22 Tryz.underlying5 Tryz.underlying9 Own.out
   go_wp2
   go_ret
   exact ⟨_, rfl, by rw [str_size]; omega, hc, G⟩
  ·have hk0 : (k : Int) > 0 := by omega
   go_wp2_with fail
   refine (Hy.out _ hc).mono ?_
   rintro e w2 ⟨x, rfl, x8, x9, hc2, hg2⟩
   have Own2 := Lib.hid (own_g Own.out hg2 hlt)
   have G2 := G.trans hg2
   have sz := G2.size
   have wk : IntKind.i64.wrap ((k : Int) - 1) = ((k - 1 : Nat) : Int) := by rw [IntKind.wrap_i64]; omega
   rcases (show y = 0 ∨ y = 1 ∨ y = 2 ∨ y = 3 by omega) with rfl | rfl | rfl | rfl
   ·have hsz := x9
    obtain ⟨b, hbv, hbb⟩ := byte_ex (x) (x.toNat) (by omega) (by omega)
    go_wp2_with (at_builtin; go_must (refine wpList_app _ rfl _ _ _ rfl Tryz.el_u8 (Own2.out.alloc _) rfl (reads_new _ _ _ _ 1 (by rfl)) rfl (B8_cells [b]) (max_small (by omega)) (by omega) (by simp; omega) ?_); intro v3 w3 own3 hg3 _ hb3)
    have own4 : w3.ownsRow w.heap.size 5 1 v3 (l ++ [b]).length (B8 (l ++ [b])) := by rw [B8_append, List.length_append]; exact own3
    have hb4 : Below w.heap.size w2 w3 := ((Below.refl w.heap.size w2).alloc sz (.cells #[.int .u8 b.toNat] 5)).trans hb3
    have hc4 := hc2.bel hb4 hlt
    have G4 := gb_bel0 G2 hb4
    have Own4 := Lib.hid own4
    clear own3 own4
    go_wp2
    first
     | exact ⟨⟨k - 1, l ++ [b], by go_num, by simp; omega, Own4.out, hc4, G4⟩, by simp [intOf]; omega⟩
     | (go_roundw; case rel => exact ⟨k - 1, l ++ [b], by go_num, by simp; omega, Own4.out, hc4, G4⟩; case measure => (simp [intOf]; omega))
   ·have hsz := x9
    have mt : x.tmod 2 = x % 2 := Int.tmod_eq_emod_of_nonneg x8
    obtain ⟨b, hbv, hbb⟩ := byte_ex (x % 2) (x.toNat % 2) (by omega) (by omega)
    go_wp2_with (at_builtin; go_must (refine wpList_app _ rfl _ _ _ rfl Tryz.el_u8 (Own2.out.alloc _) rfl (reads_new _ _ _ _ 1 (by rfl)) rfl (B8_cells [b]) (max_small (by omega)) (by omega) (by simp; omega) ?_); intro v3 w3 own3 hg3 _ hb3)
    have own4 : w3.ownsRow w.heap.size 5 1 v3 (l ++ [b]).length (B8 (l ++ [b])) := by rw [B8_append, List.length_append]; exact own3
    have hb4 : Below w.heap.size w2 w3 := ((Below.refl w.heap.size w2).alloc sz (.cells #[.int .u8 b.toNat] 5)).trans hb3
    have hc4 := hc2.bel hb4 hlt
    have G4 := gb_bel0 G2 hb4
    have Own4 := Lib.hid own4
    clear own3 own4
    go_wp2
    first
     | exact ⟨⟨k - 1, l ++ [b], by go_num, by simp; omega, Own4.out, hc4, G4⟩, by simp [intOf]; omega⟩
     | (go_roundw; case rel => exact ⟨k - 1, l ++ [b], by go_num, by simp; omega, Own4.out, hc4, G4⟩; case measure => (simp [intOf]; omega))
   ·have hsz := x9
    have mt : x.tmod 4 = x % 4 := Int.tmod_eq_emod_of_nonneg x8
    obtain ⟨b, hbv, hbb⟩ := byte_ex (97 + x % 4) (97 + x.toNat % 4) (by omega) (by omega)
    go_wp2_with (at_builtin; go_must (refine wpList_app _ rfl _ _ _ rfl Tryz.el_u8 (Own2.out.alloc _) rfl (reads_new _ _ _ _ 1 (by rfl)) rfl (B8_cells [b]) (max_small (by omega)) (by omega) (by simp; omega) ?_); intro v3 w3 own3 hg3 _ hb3)
    have own4 : w3.ownsRow w.heap.size 5 1 v3 (l ++ [b]).length (B8 (l ++ [b])) := by rw [B8_append, List.length_append]; exact own3
    have hb4 : Below w.heap.size w2 w3 := ((Below.refl w.heap.size w2).alloc sz (.cells #[.int .u8 b.toNat] 5)).trans hb3
    have hc4 := hc2.bel hb4 hlt
    have G4 := gb_bel0 G2 hb4
    have Own4 := Lib.hid own4
    clear own3 own4
    go_wp2
    first
     | exact ⟨⟨k - 1, l ++ [b], by go_num, by simp; omega, Own4.out, hc4, G4⟩, by simp [intOf]; omega⟩
     | (go_roundw; case rel => exact ⟨k - 1, l ++ [b], by go_num, by simp; omega, Own4.out, hc4, G4⟩; case measure => (simp [intOf]; omega))
   ·have hsz := x9
    obtain ⟨b, hbv, hbb⟩ := byte_ex (x) (x.toNat) (by omega) (by omega)
    go_wp2_with (at_builtin; go_must (refine wpList_app _ rfl _ _ _ rfl Tryz.el_u8 (Own2.out.alloc _) rfl (reads_new _ _ _ _ 1 (by rfl)) rfl (B8_cells [b]) (max_small (by omega)) (by omega) (by simp; omega) ?_); intro v3 w3 own3 hg3 _ hb3)
    have own4 : w3.ownsRow w.heap.size 5 1 v3 (l ++ [b]).length (B8 (l ++ [b])) := by rw [B8_append, List.length_append]; exact own3
    have hb4 : Below w.heap.size w2 w3 := ((Below.refl w.heap.size w2).alloc sz (.cells #[.int .u8 b.toNat] 5)).trans hb3
    have hc4 := hc2.bel hb4 hlt
    have G4 := gb_bel0 G2 hb4
    have Own4 := Lib.hid own4
    clear own3 own4
    go_wp2
    first
     | exact ⟨⟨k - 1, l ++ [b], by go_num, by simp; omega, Own4.out, hc4, G4⟩, by simp [intOf]; omega⟩
     | (go_roundw; case rel => exact ⟨k - 1, l ++ [b], by go_num, by simp; omega, Own4.out, hc4, G4⟩; case measure => (simp [intOf]; omega))

end Go.Proofs.YtjjniapamdleoaaGreatDoor
