/- What is drawn: the cursor made, numbers below a bound, picks. -/
import Derived.Test.YtpnmmigoencbdaaDoorDraw
import Derived.Test.YtpnmmigoencbdaaDoorSgn
namespace Go.Proofs.YtpnmmigoencbdaaDoor
open Go Go.RowKit

theorem add_blk (ad : Addr) (k : Nat) : (ad.add k).block = ad.block := by unfold Addr.add; split <;> rfl
theorem Curs.alloc {w : World} {g : Nat} {A : Option Addr} {n cp : Nat} {bs : List UInt8} (h : Curs w g A n cp bs) (o : Obj) : Curs (w.alloc o) g A n cp bs := h.below (belA (bel0 w) o)

set_option maxRecDepth 100000 in
set_option maxHeartbeats 2000000 in
theorem l1New_any (A : Option Addr) (n cp : Nat) (bs : List UInt8) (hn : n ≤ 9223372036854775806) (w : World) (hr : Reads w w.heap.size 1 A n (B8 bs)) :
    Calls Tryd.prog 19 #[.slice A n cp] w fun e w' => ∃ g, e = .returned (.pointer (some ⟨g, 0, none⟩)) ∧ w.heap.size ≤ g ∧ Curs w' g A n cp bs ∧ Below w.heap.size w w' := by
  have Hr := Lib.hid hr
  clear hr
  go_enter Tryd.func19, Tryd.ntmps19
  go_wp2
  go_loopw [3, 4] (fun h i wr => ∃ (q : Nat) (hv : Int), q ≤ n ∧ i = .int .i64 q ∧ h = .int .i64 hv ∧ Below w.heap.size w wr)
    (fun _ i _ => n - (intOf i).toNat)
  case atStart => exact ⟨0, _, by omega, rfl, rfl, bel0 w⟩
  case round =>
    obtain ⟨q, hv, hq, rfl, rfl, hbel⟩ := hrel
    by_cases hlt : q < n
    · have hI : (q : Int) < (n : Int) := by omega
      have q0 : (0 : Int) ≤ (q : Int) := by omega
      obtain ⟨b, ad, rfl, z0⟩ : ∃ (b : UInt8) (ad : Addr), A = some ad ∧ wr.cell? (ad.add q) = some (.int .u8 b.toNat) := by
        obtain ⟨ad, hA, _, hc⟩ := (Hr.out.below hbel).2 (by omega)
        have hl := Hr.out.1
        have h2 : (B8 bs).length = bs.length := by simp [B8]
        have h3 := hc q (.int .u8 (bs[q]'(by omega)).toNat) (by simp [B8, show q < bs.length by omega])
        exact ⟨_, ad, hA, h3⟩
      by_cases h4 : (q : Int) < 4000
      · go_wp2
        first
          | exact ⟨⟨q + 1, _, by omega, by go_num, rfl, hbel⟩, by simp [intOf]; omega⟩
          | (go_roundw; case rel => exact ⟨q + 1, _, by omega, by go_num, rfl, hbel⟩; case measure => (simp [intOf]; omega))
      · go_wp2
        go_ret
        exact ⟨wr.heap.size, rfl, hbel.size, ⟨0, hv, Nat.zero_le _, Blk.new' _ _ _ _ rfl, ((Hr.out.below hbel).more hbel.size).below (belA (bel0 wr) _)⟩, belA hbel _⟩
    · have hI : ¬ ((q : Int) < (n : Int)) := by omega
      go_wp2
      go_ret
      exact ⟨wr.heap.size, rfl, hbel.size, ⟨0, hv, Nat.zero_le _, Blk.new' _ _ _ _ rfl, ((Hr.out.below hbel).more hbel.size).below (belA (bel0 wr) _)⟩, belA hbel _⟩

set_option maxRecDepth 100000 in
set_option maxHeartbeats 2000000 in
theorem l1Below_any (g : Nat) (A : Option Addr) (n cp : Nat) (bs : List UInt8) (hn : n ≤ 9223372036854775806) (m : Int) (hm : m ≤ 4611686018427387904) (w : World) (h : Curs w g A n cp bs) :
    Calls Tryd.prog 47 #[.pointer (some ⟨g, 0, none⟩), .int .i64 m] w fun e w' => ∃ x : Int, e = .returned (.int .i64 x) ∧ (m ≤ 0 → x = 0) ∧ (0 < m → 0 ≤ x ∧ x < m) ∧ Curs w' g A n cp bs ∧ w.grownBy w' (some g) := by
  have Hb := Lib.hid (fun W hW => l1Byte_any g A n cp bs hn W hW)
  by_cases h0 : m ≤ 0
  · go_enter Tryd.func47, Tryd.ntmps47
    go_wp2
    go_ret
    exact ⟨0, rfl, fun _ => rfl, fun h => by omega, h, grown_refl w _⟩
  · by_cases h1 : m ≤ 256
    · go_enter Tryd.func47, Tryd.ntmps47
      go_wp2_with fail
      refine (Hb.out w h).mono ?_
      rintro e w1 ⟨x, rfl, hx0, hx1, hc1, hg1⟩
      have mz : ¬ (m = 0) := by omega
      have mt : x.tmod m = x % m := Int.tmod_eq_emod_of_nonneg hx0
      have m0 := Int.emod_nonneg x mz
      have m1 := Int.emod_lt_of_pos x (show 0 < m by omega)
      go_wp2
      go_ret
      exact ⟨_, rfl, fun h => by omega, fun _ => by constructor <;> omega, hc1, hg1⟩
    · go_enter Tryd.func47, Tryd.ntmps47
      go_wp2_with fail
      refine (Hb.out w h).mono ?_
      rintro e w1 ⟨x, rfl, hx0, hx1, hc1, hg1⟩
      go_wp2_with fail
      refine (Hb.out w1 hc1).mono ?_
      rintro e w2 ⟨y, rfl, hy0, hy1, hc2, hg2⟩
      go_wp2_with fail
      refine (Hb.out w2 hc2).mono ?_
      rintro e w3 ⟨z, rfl, hz0, hz1, hc3, hg3⟩
      go_wp2_with fail
      refine (Hb.out w3 hc3).mono ?_
      rintro e w4 ⟨u, rfl, hu0, hu1, hc4, hg4⟩
      have mz : ¬ (m = 0) := by omega
      obtain ⟨S, hS⟩ : ∃ S, x * 16777216 + y * 65536 + z * 256 + u = S := ⟨_, rfl⟩
      have S0 : 0 ≤ S := by omega
      have S1 : S ≤ 4294967295 := by omega
      have mt : S.tmod m = S % m := Int.tmod_eq_emod_of_nonneg S0
      have m0 := Int.emod_nonneg S mz
      have m1 := Int.emod_lt_of_pos S (show 0 < m by omega)
      go_wp2
      go_ret
      exact ⟨_, rfl, fun h => by omega, fun _ => by constructor <;> omega, hc4, ((hg1.trans hg2).trans hg3).trans hg4⟩

set_option maxHeartbeats 1000000 in
theorem l1Once_any (g : Nat) (A : Option Addr) (n cp : Nat) (bs : List UInt8) (hn : n ≤ 9223372036854775806) (m : Int) (hm : m ≤ 4611686018427387904) (w : World) (h : Curs w g A n cp bs) :
    Calls Tryd.prog 29 #[.pointer (some ⟨g, 0, none⟩), .int .i64 m] w fun e w' => ∃ b : Bool, e = .returned (.bool b) ∧ Curs w' g A n cp bs ∧ w.grownBy w' (some g) := by
  have Hb := Lib.hid (fun W hW => l1Below_any g A n cp bs hn m hm W hW)
  go_enter Tryd.func29, Tryd.ntmps29
  go_wp2_with fail
  refine (Hb.out w h).mono ?_
  rintro e w1 ⟨x, rfl, _, _, hc1, hg1⟩
  go_wp2
  go_ret
  exact ⟨_, rfl, hc1, hg1⟩

set_option maxHeartbeats 1000000 in
theorem l1PickInt_any (g : Nat) (A : Option Addr) (n cp : Nat) (bs : List UInt8) (hn : n ≤ 9223372036854775806) (AL : Option Addr) (m cl : Nat) (xs : List Int) (hm : 0 < m) (hm2 : m ≤ 1000000) (w : World) (h : Curs w g A n cp bs) (hl : Reads w w.heap.size 1 AL m (II xs)) (hne : ∀ ad, AL = some ad → ad.block ≠ g) :
    Calls Tryd.prog 32 #[.pointer (some ⟨g, 0, none⟩), .slice AL m cl] w fun e w' => ∃ x : Int, e = .returned (.int .i64 x) ∧ x ∈ xs ∧ Curs w' g A n cp bs ∧ w.grownBy w' (some g) := by
  have Hb := Lib.hid (fun W hW => l1Below_any g A n cp bs hn (m : Int) (by omega) W hW)
  have Hl := Lib.hid hl
  have Hne := Lib.hid hne
  clear hl hne
  go_enter Tryd.func32, Tryd.ntmps32
  go_wp2_with fail
  refine (Hb.out w h).mono ?_
  rintro e w1 ⟨x, rfl, _, hx, hc1, hg1⟩
  obtain ⟨hx0, hx1⟩ := hx (by omega)
  obtain ⟨k, rfl⟩ : ∃ k : Nat, x = (k : Int) := ⟨x.toNat, by omega⟩
  obtain ⟨hk', ad, rfl, hadb, hc⟩ := reads_at Hl.out (k := k) (by omega)
  have hz : w1.cell? (ad.add k) = some (.int .i64 xs[k]) := by
    rw [World.cell?_of_block (w := w) (hg1.block _ (by rw [add_blk]; exact hadb) (by rw [add_blk]; intro e; injection e with e; exact Hne.out ad rfl e))]
    exact hc
  go_wp2
  go_ret
  exact ⟨_, rfl, List.getElem_mem hk', hc1, hg1⟩

end Go.Proofs.YtpnmmigoencbdaaDoor
